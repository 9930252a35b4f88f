/- The reference's store: a new one; reels come. Conditions: right reels. -/
import Derived.Test.YtcfeoapbbkfbnaaGreatDoorReW
import Derived.WideKeyEntry
namespace Go.Proofs.YtcfeoapbbkfbnaaGreatDoor
open Go.RowKit Go.Sort Go.Maps

theorem setB2 (w : World) (b : Nat) (o o' : Obj) : ChangeMaps.setBlock (ChangeMaps.setBlock w b o) b o' = ChangeMaps.setBlock w b o' := by
  unfold ChangeMaps.setBlock
  simp
/-- an entry of a map made, then stored. -/
theorem MapS.entry {α : Type} {T : Mty α} {w : World} {b : Nat} {l : Sm α} (h : MapS T w b l) (hT : T.Ok) (s : ByteArray) (hs : s.size ≤ maxLen) (x : α) (hl : l.length < maxLen) :
    ∃ v0 sv wA wB, (Instr.mapEntry T.t (.map (some b)) (.string s)).run Tryz.prog w = .ok (.tuple #[v0, sv]) wA ∧ (Instr.entryStore T.t (.map (some b)) sv (T.V x)).run Tryz.prog wA = .ok () wB ∧ MapS T wB b (l.put s.data.toList x) ∧ w.grownBy wA (some b) ∧ w.grownBy wB (some b) := by
  obtain ⟨w', hr, hm, ht⟩ := h.put hT s hs x hl
  obtain ⟨hOk, es, ck, hb, F, hsz, hD⟩ := h
  obtain ⟨v0, st, es1, c1, hr1, _, h2⟩ := WideElems.entry_then_store (WideMaps.string_law Tryz.underlying9) hT.ut hT.zv hb F (keyS s hs)
  obtain ⟨es', c', hr2, hr3⟩ := h2 _ (T.V x) (ChangeMaps.heap_setBlock_same hb _)
  rw [setB2] at hr2
  rw [hr3] at hr
  injection hr with _ hr
  subst hr
  refine ⟨v0, _, _, _, hr1, hr2, hm, ?_, ht.grown⟩
  exact World.mapTurned.grown ⟨es, ck, es1, c1, hb, rfl⟩
section
variable {w w' : World} {L : Loc} {r : RSt} {N : Nat}
theorem StR.entP (h : StR w L r N) (hN : N + 1 ≤ 1000000000) (k : ByteArray) (hk : k.size ≤ maxLen) (x : ByteArray) :
    ∃ v0 sv wA wB, (Instr.mapEntry 125 (.map (some L.m0)) (.string k)).run Tryz.prog w = .ok (.tuple #[v0, sv]) wA ∧ (Instr.entryStore 125 (.map (some L.m0)) sv (.string x)).run Tryz.prog wA = .ok () wB ∧ StR wB L { r with P := r.P.put k.data.toList x } (N + 1) ∧ Kt L.B w wB ∧ w.grownBy wA (some L.m0) ∧ w.grownBy wB (some L.m0) := by
  obtain ⟨n1, n2, n3⟩ := h.ln
  obtain ⟨v0, sv, wA, wB, hr1, hr2, hm, hgA, hg⟩ := h.mP.entry TMs.ok k hk x (lt_max n1 h.big)
  have hp := Sm.put_le r.P k.data.toList x
  obtain ⟨h1, h2⟩ := h.off (fun cur t => h.mP.noCells cur t) hg
  exact ⟨v0, sv, wA, wB, hr1, hr2, ⟨hN, ⟨by show (r.P.put _ _).length ≤ _; omega, by show r.V.length ≤ _; omega, by show r.F.length ≤ _; omega⟩, h.b, h.ne, h1, hm, h.mV.kept hg (some_ne h.ne.1.symm), h.mF.kept hg (some_ne h.ne.2.1.symm), h2⟩, Kt.of_gr hg h.b.2.1 h.mP.noFix, hgA, hg⟩
theorem StR.entV (h : StR w L r N) (hN : N + 1 ≤ 1000000000) (k : ByteArray) (hk : k.size ≤ maxLen) (x : Int) :
    ∃ v0 sv wA wB, (Instr.mapEntry 128 (.map (some L.m1)) (.string k)).run Tryz.prog w = .ok (.tuple #[v0, sv]) wA ∧ (Instr.entryStore 128 (.map (some L.m1)) sv (.int .i64 x)).run Tryz.prog wA = .ok () wB ∧ StR wB L { r with V := r.V.put k.data.toList x } (N + 1) ∧ Kt L.B w wB ∧ w.grownBy wA (some L.m1) ∧ w.grownBy wB (some L.m1) := by
  obtain ⟨n1, n2, n3⟩ := h.ln
  obtain ⟨v0, sv, wA, wB, hr1, hr2, hm, hgA, hg⟩ := h.mV.entry TMi.ok k hk x (lt_max n2 h.big)
  have hp := Sm.put_le r.V k.data.toList x
  obtain ⟨h1, h2⟩ := h.off (fun cur t => h.mV.noCells cur t) hg
  exact ⟨v0, sv, wA, wB, hr1, hr2, ⟨hN, ⟨by show r.P.length ≤ _; omega, by show (r.V.put _ _).length ≤ _; omega, by show r.F.length ≤ _; omega⟩, h.b, h.ne, h1, h.mP.kept hg (some_ne h.ne.1), hm, h.mF.kept hg (some_ne h.ne.2.2.symm), h2⟩, Kt.of_gr hg h.b.2.2.1 h.mV.noFix, hgA, hg⟩
end
theorem gr_cells {w w' : World} {m g : Nat} {cs : Array Value} {t : TypeId} (hg : w.grownBy w' (some m)) (hm : ∀ cur t, w.heap[m]? ≠ some (.cells cur t (0, 0))) (h : w.heap[g]? = some (.cells cs t (0, 0))) : w'.heap[g]? = some (.cells cs t (0, 0)) :=
  (hg.block g (blk_lt h) fun e => by injection e with e; subst e; exact hm _ _ h).trans h
set_option maxHeartbeats 8000000 in
set_option maxRecDepth 100000 in
theorem come_any (L : Loc) (r : RSt) (N : Nat) (x : Rel) (w : World) (h : StR w L r N) (hN : N + 2 ≤ 1000000000) (hx : x.1.size ≤ maxLen) :
    Calls Tryz.prog 154 #[.pointer (some ⟨L.S, 0, none⟩), .agg #[.string x.1, .string x.2.1, .int .i64 x.2.2]] w fun e w' => e = .returned (.tuple #[]) ∧ StR w' L { r with P := r.P.put x.1.data.toList x.2.1, V := r.V.put x.1.data.toList x.2.2 } (N + 2) ∧ Kt L.B w w' := by
  obtain ⟨a, b, n⟩ := x
  obtain ⟨w1, hw1⟩ : ∃ w1, w1 = w.alloc (.cells #[.string a, .string b, .int .i64 n] 73) := ⟨_, rfl⟩
  have hb1 : Below w.heap.size w w1 := by rw [hw1]; exact Bl.alloc (Below.refl _ _) _
  have hx1 : w1.heap[w.heap.size]? = some (.cells #[.string a, .string b, .int .i64 n] 73 (0, 0)) := by rw [hw1]; exact blk_new w _
  have hd : Below w1.heap.size w1 w1.drew := Below.drew (Below.refl _ _)
  obtain ⟨w0, hw0⟩ : ∃ w0, w0 = w1.drew := ⟨_, rfl⟩
  rw [← hw0] at hd
  have h0 := (h.low hb1).low hd
  obtain ⟨v0, sv0, wA, wB, hrA, hrB, hSB, hKB, hgA, hgB⟩ := h0.entP (by omega) a hx b
  obtain ⟨v1, sv1, wC, wD, hrC, hrD, hSD, hKD, hgC, hgD⟩ := hSB.entV (by omega) a hx n
  obtain ⟨tv, hS0, _⟩ := h0.tv
  obtain ⟨tvB, hSB2, _⟩ := hSB.tv
  have hX0 := blk_below hx1 hd
  have hXB := gr_cells hgB (fun cur t => h0.mP.noCells cur t) hX0
  have hRD : ∀ W, (W = w0 ∨ W = wA ∨ W = wB ∨ W = wC ∨ W = wD) → W.cell? ⟨L.S, 0, none⟩ = some (.map (some L.m0)) ∧ W.cell? ⟨L.S, 1, none⟩ = some (.map (some L.m1)) ∧ W.cell? ⟨w.heap.size, 0, none⟩ = some (.string a) ∧ W.cell? ⟨w.heap.size, 1, none⟩ = some (.string b) ∧ W.cell? ⟨w.heap.size, 2, none⟩ = some (.int .i64 n) := by
    have mk : ∀ W : World, (∃ tv, W.heap[L.S]? = some (.cells #[.map (some L.m0), .map (some L.m1), .map (some L.m2), tv] 140 (0, 0))) → W.heap[w.heap.size]? = some (.cells #[.string a, .string b, .int .i64 n] 73 (0, 0)) → W.cell? ⟨L.S, 0, none⟩ = some (.map (some L.m0)) ∧ W.cell? ⟨L.S, 1, none⟩ = some (.map (some L.m1)) ∧ W.cell? ⟨w.heap.size, 0, none⟩ = some (.string a) ∧ W.cell? ⟨w.heap.size, 1, none⟩ = some (.string b) ∧ W.cell? ⟨w.heap.size, 2, none⟩ = some (.int .i64 n) := fun W ⟨tv, h1⟩ h2 => ⟨blk_cell h1 0, blk_cell h1 1, blk_cell h2 0, blk_cell h2 1, blk_cell h2 2⟩
    rintro W (rfl | rfl | rfl | rfl | rfl)
    · exact mk _ ⟨_, hS0⟩ hX0
    · exact mk _ ⟨_, gr_cells hgA (fun cur t => h0.mP.noCells cur t) hS0⟩ (gr_cells hgA (fun cur t => h0.mP.noCells cur t) hX0)
    · exact mk _ ⟨_, hSB2⟩ hXB
    · exact mk _ ⟨_, gr_cells hgC (fun cur t => hSB.mV.noCells cur t) hSB2⟩ (gr_cells hgC (fun cur t => hSB.mV.noCells cur t) hXB)
    · exact mk _ ⟨_, gr_cells hgD (fun cur t => hSB.mV.noCells cur t) hSB2⟩ (gr_cells hgD (fun cur t => hSB.mV.noCells cur t) hXB)
  have HRD := Lib.hid hRD
  have HF := Lib.hid (And.intro hSD ((Kt.of_below hb1).trans ((Kt.of_below hd).trans (hKB.trans hKD))))
  obtain ⟨Bs, hBsd⟩ : ∃ Bs : Array Bool → (Nat → Value) → World → Prop, Bs = fun listed f W => W = (if listed.getD 21 false = true then wD else if listed.getD 19 false = true then wC else if listed.getD 18 false = true then wB else if listed.getD 16 false = true then wA else w0) ∧ (listed.getD 16 false = true → f 20 = .tuple #[v0, sv0]) ∧ (listed.getD 19 false = true → f 22 = .tuple #[v1, sv1]) := ⟨_, rfl⟩
  have HBS := Lib.hid hBsd
  have HBK : Hid (∀ (listed : Array Bool) (f : Nat → Value) (i d : Nat) (v : Value) (W : World), i ≠ 16 → i ≠ 18 → i ≠ 19 → i ≠ 21 → d ≠ 20 → d ≠ 22 → i < listed.size → Bs listed f W → Bs (listed.setIfInBounds i true) (updD f (some d) v) W) := Lib.hid fun listed f i d v W h1 h2 h3 h4 h5 h6 hi hB => by
    rw [hBsd] at hB ⊢
    simp only [getD_set hi, if_neg (Ne.symm h1), if_neg (Ne.symm h2), if_neg (Ne.symm h3), if_neg (Ne.symm h4), updD_ne (Ne.symm h5), updD_ne (Ne.symm h6)]
    exact hB
  have HW : Hid (∀ (listed : Array Bool) (f : Nat → Value) (W : World), Bs listed f W → (W = w0 ∨ W = wA ∨ W = wB ∨ W = wC ∨ W = wD)) := Lib.hid fun listed f W hB => by
    rw [hBsd] at hB
    rw [hB.1]
    split
    · simp
    split
    · simp
    split
    · simp
    split <;> simp
  change Calls _ _ #[_, .agg #[.string a, .string b, .int .i64 n]] _ _
  have lS : L.S < w1.heap.size := (h.low hb1).lt.1
  clear h hb1 hx1 hd h0 hSB hKB hgA hgB hSD hKD hgC hgD hS0 hSB2 hX0 hXB hRD hBsd hx
  go_enter Tryz.func154, Tryz.ntmps154
  go_wp2_with fail
  rw [← hw1]
  clear hw1
  refine wp_region_ef (by kernel_rfl) [4, 5, 6, 7, 8, 9, 10, 11, 12, 13, 14, 15, 16, 17, 18, 19, 20, 21, 22, 23] (fun ii => ([some (.pointer (some ⟨L.S, 0, none⟩)), some (.pointer (some ⟨L.S, 0, none⟩)), some (.pointer (some ⟨L.S, 0, none⟩)), some (.map (some L.m0)), some (.pointer (some ⟨w.heap.size, 0, none⟩)), some (.string a), some (.pointer (some ⟨L.S, 0, none⟩)), some (.pointer (some ⟨L.S, 0, none⟩)), some (.pointer (some ⟨L.S, 1, none⟩)), some (.map (some L.m1)), some (.pointer (some ⟨w.heap.size, 0, none⟩)), some (.string a), some (.pointer (some ⟨w.heap.size, 1, none⟩)), some (.string b), some (.pointer (some ⟨w.heap.size, 2, none⟩)), some (.int .i64 n), none, some (sv0), none, none, some (sv1), none] : List (Option Value)).getD ii none) Bs (by kernel_rfl) (by kernel_rfl) ?_ ?_ ?_ ?_ ?_ ?_
  · intro i' o ho hdn
    match i', ho with
    | 18, _ => rfl
    | 21, _ => rfl
    | 0, ho | 1, ho | 2, ho | 3, ho | 4, ho | 5, ho | 6, ho | 7, ho | 8, ho | 9, ho | 10, ho | 11, ho | 12, ho | 13, ho | 14, ho | 15, ho | 16, ho | 17, ho | 19, ho | 20, ho => exact absurd hdn (by obtain rfl := Option.some.inj ho; simp)
    | (_ + 22), ho => simp at ho
  · rw [HBS.out]
    have e : ∀ i, (Array.replicate 22 false).getD i false = false := fun i => by
      unfold Array.getD
      split <;> simp
    refine ⟨?_, fun h => ?_, fun h => ?_⟩
    · show _ = (if (Array.replicate 22 false).getD 21 false = true then wD else if (Array.replicate 22 false).getD 19 false = true then wC else if (Array.replicate 22 false).getD 18 false = true then wB else if (Array.replicate 22 false).getD 16 false = true then wA else w0)
      simp only [e, Bool.false_eq_true, if_false]
      rw [hw0]; rfl
    · have h2 : (Array.replicate 22 false).getD 16 false = true := h
      rw [e] at h2; cases h2
    · have h2 : (Array.replicate 22 false).getD 19 false = true := h
      rw [e] at h2; cases h2
  · intro listed f i' o v W ho hc hi hs hBs
    match i', ho, hc with
    | 0, ho, hc => (obtain rfl := Option.some.inj ho; exact HBK.out _ _ _ 4 _ _ (by decide) (by decide) (by decide) (by decide) (by decide) (by decide) (by rw [hs]; decide) hBs)
    | 1, ho, hc => (obtain rfl := Option.some.inj ho; exact HBK.out _ _ _ 5 _ _ (by decide) (by decide) (by decide) (by decide) (by decide) (by decide) (by rw [hs]; decide) hBs)
    | 2, ho, hc => (obtain rfl := Option.some.inj ho; exact HBK.out _ _ _ 6 _ _ (by decide) (by decide) (by decide) (by decide) (by decide) (by decide) (by rw [hs]; decide) hBs)
    | 3, ho, hc => (obtain rfl := Option.some.inj ho; exact HBK.out _ _ _ 7 _ _ (by decide) (by decide) (by decide) (by decide) (by decide) (by decide) (by rw [hs]; decide) hBs)
    | 4, ho, hc => (obtain rfl := Option.some.inj ho; exact HBK.out _ _ _ 8 _ _ (by decide) (by decide) (by decide) (by decide) (by decide) (by decide) (by rw [hs]; decide) hBs)
    | 5, ho, hc => (obtain rfl := Option.some.inj ho; exact HBK.out _ _ _ 9 _ _ (by decide) (by decide) (by decide) (by decide) (by decide) (by decide) (by rw [hs]; decide) hBs)
    | 6, ho, hc => (obtain rfl := Option.some.inj ho; exact HBK.out _ _ _ 10 _ _ (by decide) (by decide) (by decide) (by decide) (by decide) (by decide) (by rw [hs]; decide) hBs)
    | 7, ho, hc => (obtain rfl := Option.some.inj ho; exact HBK.out _ _ _ 11 _ _ (by decide) (by decide) (by decide) (by decide) (by decide) (by decide) (by rw [hs]; decide) hBs)
    | 8, ho, hc => (obtain rfl := Option.some.inj ho; exact HBK.out _ _ _ 12 _ _ (by decide) (by decide) (by decide) (by decide) (by decide) (by decide) (by rw [hs]; decide) hBs)
    | 9, ho, hc => (obtain rfl := Option.some.inj ho; exact HBK.out _ _ _ 13 _ _ (by decide) (by decide) (by decide) (by decide) (by decide) (by decide) (by rw [hs]; decide) hBs)
    | 10, ho, hc => (obtain rfl := Option.some.inj ho; exact HBK.out _ _ _ 14 _ _ (by decide) (by decide) (by decide) (by decide) (by decide) (by decide) (by rw [hs]; decide) hBs)
    | 11, ho, hc => (obtain rfl := Option.some.inj ho; exact HBK.out _ _ _ 15 _ _ (by decide) (by decide) (by decide) (by decide) (by decide) (by decide) (by rw [hs]; decide) hBs)
    | 12, ho, hc => (obtain rfl := Option.some.inj ho; exact HBK.out _ _ _ 16 _ _ (by decide) (by decide) (by decide) (by decide) (by decide) (by decide) (by rw [hs]; decide) hBs)
    | 13, ho, hc => (obtain rfl := Option.some.inj ho; exact HBK.out _ _ _ 17 _ _ (by decide) (by decide) (by decide) (by decide) (by decide) (by decide) (by rw [hs]; decide) hBs)
    | 14, ho, hc => (obtain rfl := Option.some.inj ho; exact HBK.out _ _ _ 18 _ _ (by decide) (by decide) (by decide) (by decide) (by decide) (by decide) (by rw [hs]; decide) hBs)
    | 15, ho, hc => (obtain rfl := Option.some.inj ho; exact HBK.out _ _ _ 19 _ _ (by decide) (by decide) (by decide) (by decide) (by decide) (by decide) (by rw [hs]; decide) hBs)
    | 17, ho, hc => (obtain rfl := Option.some.inj ho; exact HBK.out _ _ _ 21 _ _ (by decide) (by decide) (by decide) (by decide) (by decide) (by decide) (by rw [hs]; decide) hBs)
    | 20, ho, hc => (obtain rfl := Option.some.inj ho; exact HBK.out _ _ _ 23 _ _ (by decide) (by decide) (by decide) (by decide) (by decide) (by decide) (by rw [hs]; decide) hBs)
    | 16, ho, hc => exact absurd hc (by simp)
    | 18, ho, hc => exact absurd hc (by simp)
    | 19, ho, hc => exact absurd hc (by simp)
    | 21, ho, hc => exact absurd hc (by simp)
    | (_ + 22), ho, hc => exact absurd hc (by simp)
  · intro listed f i' o v W ho hc hs hli hcl hdep hBs hV
    obtain ⟨r1, r2, r3, r4, r5⟩ := HRD.out W (HW.out _ _ _ hBs)
    rw [HBS.out] at hBs
    match i', ho, hc with
    | 0, ho, hc =>
      obtain rfl := Option.some.inj ho
      obtain rfl := Option.some.inj hc
      refine ⟨rfl, fun q hq => ?_⟩
      have e0 := hq.tmp 0
      simp at e0
      simp [execOp, e0, go_sem]
    | 1, ho, hc =>
      obtain rfl := Option.some.inj ho
      obtain rfl := Option.some.inj hc
      refine ⟨rfl, fun q hq => ?_⟩
      have e4 := hq.tmp 4
      simp at e4
      have d4 : f 4 = .pointer (some ⟨L.S, 0, none⟩) := hV 0 _ (by decide) (hdep ⟨0, .data⟩ (by simp) rfl) rfl
      simp [execOp, e4, d4, go_sem]
    | 2, ho, hc =>
      obtain rfl := Option.some.inj ho
      obtain rfl := Option.some.inj hc
      refine ⟨rfl, fun q hq => ?_⟩
      have e5 := hq.tmp 5
      simp at e5
      have d5 : f 5 = .pointer (some ⟨L.S, 0, none⟩) := hV 1 _ (by decide) (hdep ⟨1, .data⟩ (by simp) rfl) rfl
      simp [execOp, e5, d5, go_sem]
    | 3, ho, hc =>
      obtain rfl := Option.some.inj ho
      obtain rfl := Option.some.inj hc
      refine ⟨rfl, fun q hq => ?_⟩
      have e6 := hq.tmp 6
      simp at e6
      have d6 : f 6 = .pointer (some ⟨L.S, 0, none⟩) := hV 2 _ (by decide) (hdep ⟨2, .data⟩ (by simp) rfl) rfl
      simp [execOp, e6, d6, r1, go_sem]
    | 4, ho, hc =>
      obtain rfl := Option.some.inj ho
      obtain rfl := Option.some.inj hc
      refine ⟨rfl, fun q hq => ?_⟩
      have e3 := hq.tmp 3
      simp at e3
      simp [execOp, e3, go_sem]
    | 5, ho, hc =>
      obtain rfl := Option.some.inj ho
      obtain rfl := Option.some.inj hc
      refine ⟨rfl, fun q hq => ?_⟩
      have e8 := hq.tmp 8
      simp at e8
      have d8 : f 8 = .pointer (some ⟨w.heap.size, 0, none⟩) := hV 4 _ (by decide) (hdep ⟨4, .data⟩ (by simp) rfl) rfl
      simp [execOp, e8, d8, r3, go_sem]
    | 6, ho, hc =>
      obtain rfl := Option.some.inj ho
      obtain rfl := Option.some.inj hc
      refine ⟨rfl, fun q hq => ?_⟩
      have e0 := hq.tmp 0
      simp at e0
      simp [execOp, e0, go_sem]
    | 7, ho, hc =>
      obtain rfl := Option.some.inj ho
      obtain rfl := Option.some.inj hc
      refine ⟨rfl, fun q hq => ?_⟩
      have e10 := hq.tmp 10
      simp at e10
      have d10 : f 10 = .pointer (some ⟨L.S, 0, none⟩) := hV 6 _ (by decide) (hdep ⟨6, .data⟩ (by simp) rfl) rfl
      simp [execOp, e10, d10, go_sem]
    | 8, ho, hc =>
      obtain rfl := Option.some.inj ho
      obtain rfl := Option.some.inj hc
      refine ⟨rfl, fun q hq => ?_⟩
      have e11 := hq.tmp 11
      simp at e11
      have d11 : f 11 = .pointer (some ⟨L.S, 0, none⟩) := hV 7 _ (by decide) (hdep ⟨7, .data⟩ (by simp) rfl) rfl
      simp [execOp, e11, d11, go_sem]
    | 9, ho, hc =>
      obtain rfl := Option.some.inj ho
      obtain rfl := Option.some.inj hc
      refine ⟨rfl, fun q hq => ?_⟩
      have e12 := hq.tmp 12
      simp at e12
      have d12 : f 12 = .pointer (some ⟨L.S, 1, none⟩) := hV 8 _ (by decide) (hdep ⟨8, .data⟩ (by simp) rfl) rfl
      simp [execOp, e12, d12, r2, go_sem]
    | 10, ho, hc =>
      obtain rfl := Option.some.inj ho
      obtain rfl := Option.some.inj hc
      refine ⟨rfl, fun q hq => ?_⟩
      have e3 := hq.tmp 3
      simp at e3
      simp [execOp, e3, go_sem]
    | 11, ho, hc =>
      obtain rfl := Option.some.inj ho
      obtain rfl := Option.some.inj hc
      refine ⟨rfl, fun q hq => ?_⟩
      have e14 := hq.tmp 14
      simp at e14
      have d14 : f 14 = .pointer (some ⟨w.heap.size, 0, none⟩) := hV 10 _ (by decide) (hdep ⟨10, .data⟩ (by simp) rfl) rfl
      simp [execOp, e14, d14, r3, go_sem]
    | 12, ho, hc =>
      obtain rfl := Option.some.inj ho
      obtain rfl := Option.some.inj hc
      refine ⟨rfl, fun q hq => ?_⟩
      have e3 := hq.tmp 3
      simp at e3
      simp [execOp, e3, go_sem]
    | 13, ho, hc =>
      obtain rfl := Option.some.inj ho
      obtain rfl := Option.some.inj hc
      refine ⟨rfl, fun q hq => ?_⟩
      have e16 := hq.tmp 16
      simp at e16
      have d16 : f 16 = .pointer (some ⟨w.heap.size, 1, none⟩) := hV 12 _ (by decide) (hdep ⟨12, .data⟩ (by simp) rfl) rfl
      simp [execOp, e16, d16, r4, go_sem]
    | 14, ho, hc =>
      obtain rfl := Option.some.inj ho
      obtain rfl := Option.some.inj hc
      refine ⟨rfl, fun q hq => ?_⟩
      have e3 := hq.tmp 3
      simp at e3
      simp [execOp, e3, go_sem]
    | 15, ho, hc =>
      obtain rfl := Option.some.inj ho
      obtain rfl := Option.some.inj hc
      refine ⟨rfl, fun q hq => ?_⟩
      have e18 := hq.tmp 18
      simp at e18
      have d18 : f 18 = .pointer (some ⟨w.heap.size, 2, none⟩) := hV 14 _ (by decide) (hdep ⟨14, .data⟩ (by simp) rfl) rfl
      simp [execOp, e18, d18, r5, go_sem]
    | 17, ho, hc =>
      obtain rfl := Option.some.inj ho
      obtain rfl := Option.some.inj hc
      refine ⟨rfl, fun q hq => ?_⟩
      have e20 := hq.tmp 20
      simp at e20
      have hlk : f 20 = .tuple #[v0, sv0] := hBs.2.1 (hdep ⟨16, .data⟩ (by simp) rfl)
      simp [execOp, e20, hlk, go_sem]
    | 20, ho, hc =>
      obtain rfl := Option.some.inj ho
      obtain rfl := Option.some.inj hc
      refine ⟨rfl, fun q hq => ?_⟩
      have e22 := hq.tmp 22
      simp at e22
      have hlk : f 22 = .tuple #[v1, sv1] := hBs.2.2 (hdep ⟨19, .data⟩ (by simp) rfl)
      simp [execOp, e22, hlk, go_sem]
    | 16, ho, hc => exact absurd hc (by simp)
    | 18, ho, hc => exact absurd hc (by simp)
    | 19, ho, hc => exact absurd hc (by simp)
    | 21, ho, hc => exact absurd hc (by simp)
    | (_ + 22), ho, hc => exact absurd hc (by simp)
  · intro listed f i' o W ho hc hi hs hli hcl hdep hBs hV
    have hs22 : listed.size = 22 := hs
    have hset : ∀ j m : Nat, j < 22 → (listed.setIfInBounds j true).getD m false = if m = j then true else listed.getD m false := fun j m hj => getD_set (by omega)
    rw [HBS.out] at hBs
    match i', ho, hc with
    | 16, ho, hc =>
      obtain rfl := Option.some.inj ho
      have n18 := hcl.no hli 18 ⟨16, .chain⟩ rfl rfl (by simp) rfl
      have n19 := hcl.no n18 19 ⟨18, .chain⟩ rfl rfl (by simp) rfl
      have n21 := hcl.no n19 21 ⟨19, .chain⟩ rfl rfl (by simp) rfl
      have hW0 := hBs.1
      simp only [hli, n18, n19, n21, Bool.false_eq_true, if_false] at hW0
      subst hW0
      refine wpOp_mono ?_ (iv_val (Bu := fun W => W = wA) (Rl := fun _ => True) (Vi := fun v' _ => v' = .tuple #[v0, sv0]) ho rfl (.tuple #[v0, sv0]) wA (fun q hq => ?_) rfl trivial rfl)
      · rintro a'' w'' ⟨v', e1, rfl, _, rfl⟩
        refine ⟨_, e1, ?_, trivial, trivial⟩
        rw [HBS.out]
        refine ⟨?_, fun _ => updD_at, fun h => ?_⟩
        · simp [hset, n18, n19, n21]
        · rw [hset 16 19 (by decide), if_neg (by decide), n19] at h; cases h
      · have e7 := hq.tmp 7
        have e9 := hq.tmp 9
        simp at e7 e9
        have d7 : f 7 = .map (some L.m0) := hV 3 _ (by decide) (hdep ⟨3, .data⟩ (by simp) rfl) rfl
        have d9 : f 9 = .string a := hV 5 _ (by decide) (hdep ⟨5, .data⟩ (by simp) rfl) rfl
        simp [execOp, e7, e9, d7, d9, hrA, go_sem]
    | 18, ho, hc =>
      obtain rfl := Option.some.inj ho
      have y16 := hdep ⟨16, .chain⟩ (by simp) rfl
      have n19 := hcl.no hli 19 ⟨18, .chain⟩ rfl rfl (by simp) rfl
      have n21 := hcl.no n19 21 ⟨19, .chain⟩ rfl rfl (by simp) rfl
      have hW0 := hBs.1
      simp only [hli, y16, n19, n21, Bool.false_eq_true, if_false, if_true] at hW0
      subst hW0
      refine wpOp_mono ?_ (iv_skip (Bu := fun W => W = wB) (Rl := fun _ => True) (Vi := fun _ _ => True) ho rfl rfl wB (fun q hq => ?_) rfl trivial trivial)
      · rintro a'' w'' ⟨v', e1, rfl, _, _⟩
        refine ⟨_, e1, ?_, trivial, trivial⟩
        rw [HBS.out]
        refine ⟨?_, fun _ => hBs.2.1 y16, fun h => ?_⟩
        · simp [hset, n19, n21]
        · rw [hset 18 19 (by decide), if_neg (by decide), n19] at h; cases h
      · have e7 := hq.tmp 7
        have e21 := hq.tmp 21
        have e17 := hq.tmp 17
        simp at e7 e21 e17
        have d7 : f 7 = .map (some L.m0) := hV 3 _ (by decide) (hdep ⟨3, .data⟩ (by simp) rfl) rfl
        have d21 : f 21 = sv0 := hV 17 _ (by decide) (hdep ⟨17, .data⟩ (by simp) rfl) rfl
        have d17 : f 17 = .string b := hV 13 _ (by decide) (hdep ⟨13, .data⟩ (by simp) rfl) rfl
        simp [execOp, e7, e21, e17, d7, d21, d17, hrB, go_sem]
    | 19, ho, hc =>
      obtain rfl := Option.some.inj ho
      have y18 := hdep ⟨18, .chain⟩ (by simp) rfl
      have y16 := hcl 18 _ rfl y18 ⟨16, .chain⟩ (by simp) rfl
      have n21 := hcl.no hli 21 ⟨19, .chain⟩ rfl rfl (by simp) rfl
      have hW0 := hBs.1
      simp only [hli, y18, n21, Bool.false_eq_true, if_false, if_true] at hW0
      subst hW0
      refine wpOp_mono ?_ (iv_val (Bu := fun W => W = wC) (Rl := fun _ => True) (Vi := fun v' _ => v' = .tuple #[v1, sv1]) ho rfl (.tuple #[v1, sv1]) wC (fun q hq => ?_) rfl trivial rfl)
      · rintro a'' w'' ⟨v', e1, rfl, _, rfl⟩
        refine ⟨_, e1, ?_, trivial, trivial⟩
        rw [HBS.out]
        refine ⟨?_, fun _ => ?_, fun h => updD_at⟩
        · simp [hset, n21]
        · exact (updD_ne (by decide)).trans (hBs.2.1 y16)
      · have e13 := hq.tmp 13
        have e15 := hq.tmp 15
        simp at e13 e15
        have d13 : f 13 = .map (some L.m1) := hV 9 _ (by decide) (hdep ⟨9, .data⟩ (by simp) rfl) rfl
        have d15 : f 15 = .string a := hV 11 _ (by decide) (hdep ⟨11, .data⟩ (by simp) rfl) rfl
        simp [execOp, e13, e15, d13, d15, hrC, go_sem]
    | 21, ho, hc =>
      obtain rfl := Option.some.inj ho
      have y19 := hdep ⟨19, .chain⟩ (by simp) rfl
      have y18 := hcl 19 _ rfl y19 ⟨18, .chain⟩ (by simp) rfl
      have y16 := hcl 18 _ rfl y18 ⟨16, .chain⟩ (by simp) rfl
      have hW0 := hBs.1
      simp only [hli, y19, Bool.false_eq_true, if_false, if_true] at hW0
      subst hW0
      refine wpOp_mono ?_ (iv_skip (Bu := fun W => W = wD) (Rl := fun _ => True) (Vi := fun _ _ => True) ho rfl rfl wD (fun q hq => ?_) rfl trivial trivial)
      · rintro a'' w'' ⟨v', e1, rfl, _, _⟩
        refine ⟨_, e1, ?_, trivial, trivial⟩
        rw [HBS.out]
        refine ⟨?_, fun _ => hBs.2.1 y16, fun _ => hBs.2.2 y19⟩
        simp [hset]
      · have e13 := hq.tmp 13
        have e23 := hq.tmp 23
        have e19 := hq.tmp 19
        simp at e13 e23 e19
        have d13 : f 13 = .map (some L.m1) := hV 9 _ (by decide) (hdep ⟨9, .data⟩ (by simp) rfl) rfl
        have d23 : f 23 = sv1 := hV 20 _ (by decide) (hdep ⟨20, .data⟩ (by simp) rfl) rfl
        have d19 : f 19 = .int .i64 n := hV 15 _ (by decide) (hdep ⟨15, .data⟩ (by simp) rfl) rfl
        simp [execOp, e13, e23, e19, d13, d23, d19, hrD, go_sem]
    | 0, ho, hc => exact absurd hc (by simp)
    | 1, ho, hc => exact absurd hc (by simp)
    | 2, ho, hc => exact absurd hc (by simp)
    | 3, ho, hc => exact absurd hc (by simp)
    | 4, ho, hc => exact absurd hc (by simp)
    | 5, ho, hc => exact absurd hc (by simp)
    | 6, ho, hc => exact absurd hc (by simp)
    | 7, ho, hc => exact absurd hc (by simp)
    | 8, ho, hc => exact absurd hc (by simp)
    | 9, ho, hc => exact absurd hc (by simp)
    | 10, ho, hc => exact absurd hc (by simp)
    | 11, ho, hc => exact absurd hc (by simp)
    | 12, ho, hc => exact absurd hc (by simp)
    | 13, ho, hc => exact absurd hc (by simp)
    | 14, ho, hc => exact absurd hc (by simp)
    | 15, ho, hc => exact absurd hc (by simp)
    | 17, ho, hc => exact absurd hc (by simp)
    | 20, ho, hc => exact absurd hc (by simp)
    | (_ + 22), ho, hc => simp at ho
  · intro listed f W hall hBs hV
    rw [HBS.out] at hBs
    have hW0 := hBs.1
    have y21 : listed.getD 21 false = true := hall 21 (by decide)
    simp only [y21, if_true] at hW0
    subst hW0
    clear hBs hV hall
    unfold putsA
    simp only [List.mapIdx_toArray, List.mapIdx_cons, List.mapIdx_nil, List.contains_cons]
    simp
    go_wp2
    go_end0
    exact ⟨rfl, HF.out⟩
end Go.Proofs.YtcfeoapbbkfbnaaGreatDoor
