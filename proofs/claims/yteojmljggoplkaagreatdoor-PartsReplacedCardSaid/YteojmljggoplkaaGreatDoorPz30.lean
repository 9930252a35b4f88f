/- Texts of the proof of a law, put together, part 30 of 46. Conditions: none beyond those that each theorem names. -/
import Derived.Test.YteojmljggoplkaaGreatDoorPz5
import Derived.Test.YteojmljggoplkaaGreatDoorPz6
import Derived.Test.YteojmljggoplkaaGreatDoorPz10
import Derived.Test.YteojmljggoplkaaGreatDoorPz12
import Derived.Test.YteojmljggoplkaaGreatDoorPz13
import Derived.Test.YteojmljggoplkaaGreatDoorPz18
import Derived.Test.YteojmljggoplkaaGreatDoorPz26
import Derived.Test.YteojmljggoplkaaGreatDoorPz27
import Derived.Test.YteojmljggoplkaaGreatDoorPz28
import Derived.Test.YteojmljggoplkaaGreatDoorPz29
namespace Go.Proofs.YteojmljggoplkaaGreatDoor
open Go.RowKit Go.Sort Go.Maps
theorem reachR_one {nx : Bs → List Bs} {a : Bs} (h : nx a = []) : ∀ f : Nat, reachR nx f 0 [a] = [a]
  | 0 => rfl
  | 1 => by rw [reachR]; show reachR nx 0 1 (growR [a] (nx a)) = _; rw [h]; rfl
  | f + 2 => by rw [reachR]; show reachR nx (f + 1) 1 (growR [a] (nx a)) = _; rw [h]; rfl
theorem reachB_iff {ps : List Prt} {l : List Alt} (h : catsF ps l = 0) (a s : Bs) : s ∈ reachB ps l a ↔ Rch (nextL l) a s := by
  by_cases ha : a ∈ keysP ps
  · obtain ⟨j, h1, _, _, h4⟩ := bfsR_law (nextL l) a (keysP ps) ha fun p s hs => (next_in h hs).2.1
    unfold reachB
    rw [← (bfsR_ln (nextL l) a (keysP ps)).1, ← h1.mem, h4]
  · have hn : nextL l a = [] := List.eq_nil_iff_forall_not_mem.2 fun s hs => ha (next_in h hs).1
    unfold reachB
    rw [reachR_one hn, List.mem_singleton]
    constructor
    · rintro rfl; exact .self
    · intro hr
      by_cases e : a = s
      · exact e.symm
      · exact absurd hn (hr.out e)
theorem mutB_iff {ps : List Prt} {l : List Alt} (h : catsF ps l = 0) (a b : Bs) : mutB ps l a b = true ↔ Mut (nextL l) a b := by
  unfold mutB Mut
  rw [Bool.and_eq_true, decide_eq_true_eq, decide_eq_true_eq, reachB_iff h, reachB_iff h]
/-- the groups that the program tells are those of the reference. -/
theorem groups_one {ps : List Prt} {l : List Alt} (h : catsF ps l = 0) {ks : List Bs} (hks : ∀ k, k ∈ ks ↔ nextL l k ≠ []) (hsr : Srt ks) : (grpL (memK ps l) ⟨[], []⟩ ks).out = groupsR (mutB ps l) (keysP ps) :=
  groups_ref h hsr hks (fun k hk => ⟨fun s => memK_iff h ((hks k).1 hk) s, memK_srt h ((hks k).1 hk)⟩) (mutB_iff h)
theorem chain_one {ps : List Prt} {l : List Alt} (h : catsF ps l = 0) {a b : Bs} (ha : a ∈ keysP ps) (hb : b ∈ keysP ps) {is : Bool} {out : List Bs} (hc : ChainP ps l a b is out) :
    is = decide (b ∈ reachB ps l a) ∧ (is = true → ∃ f, chainR (nextL l) b f [[a]] = some out) ∧ (is = false → out = []) := by
  obtain ⟨g, hg, h1, h2, h3⟩ := hc
  refine ⟨?_, fun e => ?_, h3⟩
  · rw [h1, Bool.eq_iff_iff, decide_eq_true_eq, chain_is h hg ha hb, reachB_iff h, allB_mem h ha]
    by_cases e : a = b
    · subst e; exact ⟨fun _ => .self, fun _ => .inl rfl⟩
    · exact ⟨fun k => (k.resolve_left e).2, fun k => .inr ⟨e, k⟩⟩
  · obtain ⟨d, hd, ho⟩ := h2 e
    exact ⟨d + 1, by rw [ho]; exact chain_ref h hg hb hd (Nat.lt_succ_self d)⟩
end Go.Proofs.YteojmljggoplkaaGreatDoor
namespace Go.Proofs.YteojmljggoplkaaGreatDoor
open Go.RowKit Go.Sort Go.Maps
/-! amounts: the map of pairs -/
def amtM (l : List (Bs × Int)) (m : Sm Int) : Sm Int := l.foldl (fun m p => m.put p.1 p.2) m
theorem amtM_snoc (l : List (Bs × Int)) (p : Bs × Int) (m : Sm Int) : amtM (l ++ [p]) m = (amtM l m).put p.1 p.2 := by
  unfold amtM
  rw [List.foldl_append]; rfl
theorem amtM_other {k : Bs} : ∀ (l : List (Bs × Int)) (m : Sm Int), (∀ p ∈ l, p.1 ≠ k) → (amtM l m).get k = m.get k
  | [], _, _ => rfl
  | p :: r, m, h => by
    show (amtM r (m.put p.1 p.2)).get k = _
    rw [amtM_other r _ fun q hq => h q (List.mem_cons_of_mem _ hq), Sm.get_put_other (h p (List.mem_cons_self ..))]
theorem amtM_get {k : Bs} {n : Int} : ∀ (l : List (Bs × Int)) (m : Sm Int), (l.map (·.1)).Nodup → (k, n) ∈ l → (amtM l m).get k = some n
  | [], _, _, h => by cases h
  | p :: r, m, hn, h => by
    have hn2 := List.nodup_cons.1 (show (p.1 :: r.map (·.1)).Nodup from hn)
    show (amtM r (m.put p.1 p.2)).get k = _
    rcases List.mem_cons.1 h with e | h
    · have e1 : k = p.1 := congrArg Prod.fst e
      have e2 : n = p.2 := congrArg Prod.snd e
      rw [amtM_other r _ fun q hq he => hn2.1 (List.mem_map.2 ⟨q, hq, he.trans e1⟩), e1, e2, Sm.get_put_same]
    · exact amtM_get r _ hn2.2 h
end Go.Proofs.YteojmljggoplkaaGreatDoor
namespace Go.Proofs.YteojmljggoplkaaGreatDoor
open Go.RowKit Go.Sort Go.Maps
/-- so many of a part, taken of the parts of a list as far as they last. -/
def takeS : Int → Sm Int → List Bs → Int × Sm Int
  | n, m, [] => (n, m)
  | n, m, s :: r => takeS (n - min n ((m.get s).getD 0)) (m.put s ((m.get s).getD 0 - min n ((m.get s).getD 0))) r
/-- what is missing: part by part, of itself and of what replaces it. -/
def shortG (nx : Bs → List Bs) (needs : Bs → Int) : Sm Int → List Bs → List Bs
  | _, [] => []
  | m, p :: r => (if 0 < (takeS (needs p) m (p :: nx p)).1 then [p] else []) ++ shortG nx needs (takeS (needs p) m (p :: nx p)).2 r
/-- numbers stay between 0 and N. -/
def BdSk (N : Int) (m : Sm Int) : Prop := ∀ s, 0 ≤ (m.get s).getD 0 ∧ (m.get s).getD 0 ≤ N
theorem takeS_bd {N : Int} : ∀ (l : List Bs) (n : Int) (m : Sm Int), BdSk N m → 0 ≤ n → BdSk N (takeS n m l).2 ∧ 0 ≤ (takeS n m l).1 ∧ (takeS n m l).1 ≤ n
  | [], n, m, h, hn => ⟨h, hn, Int.le_refl _⟩
  | s :: r, n, m, h, hn => by
    have hs := h s
    have hb : BdSk N (m.put s ((m.get s).getD 0 - min n ((m.get s).getD 0))) := fun t => by
      by_cases e : s = t
      · subst e
        rw [Sm.get_put_same]
        show 0 ≤ (m.get s).getD 0 - min n ((m.get s).getD 0) ∧ (m.get s).getD 0 - min n ((m.get s).getD 0) ≤ N
        omega
      · rw [Sm.get_put_other e]; exact h t
    obtain ⟨h1, h2, h3⟩ := takeS_bd r (n - min n ((m.get s).getD 0)) _ hb (by omega)
    exact ⟨h1, h2, by rw [takeS]; omega⟩
/-! alternates whose parts have different packages -/
/-- the package of a part. -/
def pkgP (ps : List Prt) (k : ByteArray) : ByteArray := ((ps.find? fun x => decide (x.1 = k)).map (·.2.1)).getD ByteArray.empty
def oddP (ps : List Prt) (l : List Alt) : List (ByteArray × ByteArray) := (l.filter fun x => decide (pkgP ps x.1 ≠ pkgP ps x.2.1)).map fun x => (x.1, x.2.1)
/-- of parts that are sorted, one that bears a key is the one that is found. -/
theorem pkgP_at {ps : List Prt} (h : prtsF1 none ps = 0) {i : Nat} {x : Prt} (hx : ps[i]? = some x) : pkgP ps x.1 = x.2.1 := by
  have hn : (ps.map fun x => bsOf x.1).Nodup := (prtsF1_srt ps none h).2.nodup
  have hm := List.mem_of_getElem? hx
  clear hx h
  unfold pkgP
  induction ps with
  | nil => cases hm
  | cons y r ih =>
    obtain ⟨h1, h2⟩ := List.nodup_cons.1 (show (bsOf y.1 :: r.map fun x => bsOf x.1).Nodup from hn)
    rw [List.find?_cons]
    by_cases e : y.1 = x.1
    · rw [decide_eq_true e]
      rcases List.mem_cons.1 hm with q | q
      · rw [q]; rfl
      · exact absurd (List.mem_map.2 ⟨x, q, by rw [e]⟩) h1
    · rw [decide_eq_false e]
      rcases List.mem_cons.1 hm with q | q
      · exact absurd (by rw [q]) e
      · exact ih h2 q
end Go.Proofs.YteojmljggoplkaaGreatDoor
namespace Go.Proofs.YteojmljggoplkaaGreatDoor
open Go.RowKit Go.Sort
/-- rows of pairs. -/
def TPa : Rty (ByteArray × ByteArray) := { e := 61, S := 32, k := 2, b := 32, z := .agg #[.string ByteArray.empty, .string ByteArray.empty], f := fun s => [.string s.1, .string s.2] }
theorem TPa.ok : TPa.Ok := ⟨by kernel_rfl, Tryz.underlying32, rfl, by decide, fun _ => rfl, fun x u hu => by simp [TPa] at hu; rcases hu with rfl | rfl <;> rfl, by decide⟩
theorem oddP_take {ps : List Prt} {l : List Alt} {k : Nat} {x : Alt} (h : l[k]? = some x) : oddP ps (l.take (k + 1)) = oddP ps (l.take k) ++ (if pkgP ps x.1 ≠ pkgP ps x.2.1 then [(x.1, x.2.1)] else []) := by
  unfold oddP
  rw [List.take_add_one, h, List.filter_append, List.map_append]
  congr 1
  by_cases e : pkgP ps x.1 = pkgP ps x.2.1
  · simp [e]
  · simp [e]
theorem oddP_len (ps : List Prt) (l : List Alt) : (oddP ps l).length ≤ l.length := by
  unfold oddP
  rw [List.length_map]
  exact List.length_filter_le _ _
def OddR (ps : List Prt) (l : List Alt) (B : Nat) (F : Int) (e : Ending) (w' : World) : Prop := ∃ v out, e = .returned (.tuple #[v, .int .i64 F]) ∧ OwnR TPa w' B v out ∧ (F = 0 → out = oddP ps l) ∧ (F ≠ 0 → out = [])
theorem OddR.mk {ps : List Prt} {l : List Alt} {B : Nat} {F : Int} {w' : World} {v : Value} (out : List (ByteArray × ByteArray)) (h1 : OwnR TPa w' B v out) (h2 : F = 0 → out = oddP ps l) (h3 : F ≠ 0 → out = []) : OddR ps l B F (.returned (.tuple #[v, .int .i64 F])) w' := ⟨v, out, rfl, h1, h2, h3⟩
set_option maxHeartbeats 4000000 in
set_option maxRecDepth 100000 in
theorem OddP_any (ps : List Prt) (l : List Alt) (vp va : Value) (w : World) (hl : ps.length ≤ 100000) (hl2 : l.length ≤ 100000) (hz : PrtZ ps) (hz2 : AltZ l) (hc : CatR w vp va ps l) :
    Calls Tryz.prog 13 #[.agg #[vp, va]] w fun e w' => OddR ps l w.heap.size (catsF ps l) e w' ∧ Below w.heap.size w w' := by
  have HCC := Lib.hid fun W (hW : Below w.heap.size w W) => CheckCatalogue_any ps l vp va W (by omega) (by omega) hz hz2 (hc.low hW)
  have HPA := Lib.hid fun (hs : SortP ps) (key : ByteArray) W (hW : Below w.heap.size w W) => partAt_any ps key vp W (by omega) hs (hc.low hW).p
  have HRA := Lib.hid fun W (hW : Below w.heap.size w W) => hc.a.below hW
  have HRP := Lib.hid fun W (hW : Below w.heap.size w W) => hc.p.below hW
  obtain ⟨pa, pc, rfl, _, _⟩ := hc.p.form
  obtain ⟨aa, ac, rfl, _, _⟩ := hc.a.form
  obtain ⟨w1, hw1⟩ : ∃ w1, w1 = w.alloc (.cells #[.slice pa ps.length pc, .slice aa l.length ac] 29) := ⟨_, rfl⟩
  have hA1 : Below w.heap.size w w1 := by rw [hw1]; exact Bl.alloc (Below.refl _ _) _
  have HXC := Lib.hid (show ∀ W, Below w1.heap.size w1 W → W.cell? ⟨w.heap.size, 0, none⟩ = some (.slice pa ps.length pc) ∧ W.cell? ⟨w.heap.size, 1, none⟩ = some (.slice aa l.length ac) ∧ w.heap.size < W.heap.size from fun W hW => by
    have h3 : W.heap[w.heap.size]? = _ := blk_below (show w1.heap[w.heap.size]? = some (.cells #[.slice pa ps.length pc, .slice aa l.length ac] 29 (0, 0)) by rw [hw1]; exact blk_new w _) hW
    exact ⟨blk_cell h3 0, blk_cell h3 1, blk_lt h3⟩)
  have HW1 := Lib.hid hw1
  have HA1 := Lib.hid hA1
  obtain ⟨F, hF⟩ : ∃ F, F = catsF ps l := ⟨_, rfl⟩
  rw [← hF] at HCC ⊢
  have HF := Lib.hid hF
  have HC1 := Lib.hid (HCC.out w1 HA1.out)
  clear hw1 hA1 hc hz hz2 hF HCC
  go_enter Tryz.func13, Tryz.ntmps13
  go_wp2_with fail
  rw [← HW1.out]
  refine HC1.out.mono ?_
  rintro e w2 ⟨rfl, hb2⟩
  have HB2 := Lib.hid (Bl.trans HA1.out hb2)
  have HR2 := Lib.hid hb2
  clear hb2
  by_cases h0 : F = 0
  case neg =>
    have HFF := Lib.hid h0
    have h0' : (F != 0) = true := by simpa using h0
    go_wp2
    go_ret2
    exact ⟨OddR.mk [] (OwnR.nil _ _) (fun e => absurd e HFF.out) (fun _ => rfl), HB2.out⟩
  have HS := Lib.hid (prtsF1_sorted ps none (catsF_ok (HF.out.symm.trans h0)).2.1).2
  have HP0 := Lib.hid (catsF_ok (HF.out.symm.trans h0)).2.1
  have HAH := Lib.hid fun x hx => altsF1_has (catsF_ok (HF.out.symm.trans h0)).2.2.2 x hx
  subst h0
  obtain ⟨q0, q1, lC⟩ := HXC.out w2 HR2.out
  go_wp2_with fail
  clear q0 q1 lC
  have lw : w.heap.size ≤ w2.heap.size := HB2.out.size
  go_loopw [5, 20] (fun v i wr => ∃ (k : Nat) (out : List (ByteArray × ByteArray)), k ≤ l.length ∧ i = .int .i64 k ∧ Hid (OwnR TPa wr w2.heap.size v out) ∧ Hid (out = oddP ps (l.take k)) ∧ Hid (Below w2.heap.size w2 wr)) (fun _ i _ => l.length - (intOf i).toNat)
  case atStart => exact ⟨0, [], Nat.zero_le _, rfl, Lib.hid (OwnR.nil _ _), Lib.hid rfl, Lib.hid (Below.refl _ _)⟩
  case round =>
    obtain ⟨k, out, hk, rfl, HO, HE, HB⟩ := hrel
    by_cases hlt : k < l.length
    · obtain ⟨x, hx⟩ : ∃ x, l[k]? = some x := ⟨_, List.getElem?_eq_getElem hlt⟩
      have HX := Lib.hid (HAH.out x (List.mem_of_getElem? hx))
      have HT := Lib.hid (oddP_take (ps := ps) hx)
      obtain ⟨b1, o1, rfl, _, _, z⟩ := (HRA.out wr (Bl.trans HB2.out HB.out)).at TAl.ok.len hx TAl.ok.pos
      obtain ⟨f, b, ab⟩ := x
      have c0 : wr.cell? ⟨b1, o1 + k * 3, none⟩ = some (.string f) := z 0 _ rfl
      have c1 : wr.cell? ⟨b1, o1 + k * 3 + 1, none⟩ = some (.string b) := z 1 _ rfl
      have c2 : wr.cell? ⟨b1, o1 + k * 3 + 2, none⟩ = some (.bool ab) := z 2 _ rfl
      obtain ⟨q0, q1, lC⟩ := HXC.out wr (Bl.trans HR2.out HB.out)
      have hadd : IntKind.i64.wrap ((k : Int) + 1) = ((k + 1 : Nat) : Int) := by rw [IntWalk.i64_in _ (by omega)]; omega
      obtain ⟨P, hP⟩ : ∃ P, P = wr.heap.size := ⟨_, rfl⟩
      obtain ⟨wx, hwx⟩ : ∃ wx, wx = wr.alloc (.cells #[.string f, .string b, .bool ab] 77) := ⟨_, rfl⟩
      have hbx : Below wr.heap.size wr wx := by rw [hwx]; exact Bl.alloc (Below.refl _ _) _
      have hBX : wx.heap[P]? = some (.cells #[.string f, .string b, .bool ab] 77 (0, 0)) := by rw [hwx, hP]; exact blk_new wr _
      have HXP : Hid (∀ W, Below wx.heap.size wx W → W.cell? ⟨P, 0, none⟩ = some (.string f) ∧ W.cell? ⟨P, 1, none⟩ = some (.string b) ∧ P < W.heap.size) := Lib.hid fun W hW => ⟨blk_cell (blk_below hBX hW) 0, blk_cell (blk_below hBX hW) 1, blk_lt (blk_below hBX hW)⟩
      have HBX := Lib.hid (Bl.trans HB.out hbx)
      have HOX := Lib.hid (HO.out.below hbx)
      have HRX := Lib.hid (And.intro hP hwx)
      have HP1 := Lib.hid (HPA.out HS.out f wx (Bl.trans HB2.out HBX.out))
      clear hx z hbx hBX hP hwx
      go_wp2_with fail
      rw [← HRX.out.2, ← HRX.out.1]
      refine HP1.out.mono ?_
      rintro e w3 ⟨⟨r1, rfl, hr1⟩, hb3⟩
      obtain ⟨i1, x1, rfl, hi1, he1⟩ := hr1 HX.out.1
      have HI1 := Lib.hid (And.intro hi1 (ba_inj he1))
      have HX3 := Lib.hid hb3
      obtain ⟨p0, p1, lP⟩ := HXP.out w3 hb3
      have HP2 := Lib.hid (HPA.out HS.out b w3 (Bl.trans HB2.out (Bl.trans HBX.out hb3)))
      clear c0 c1 c2 q0 q1 lC hr1 hi1 he1 HP1
      obtain ⟨q0, q1, lC⟩ := HXC.out w3 (Bl.trans HR2.out (Bl.trans HBX.out hb3))
      clear hb3
      go_wp2_with fail
      refine HP2.out.mono ?_
      rintro e w4 ⟨⟨r2, rfl, hr2⟩, hb4⟩
      obtain ⟨i2, x2, rfl, hi2, he2⟩ := hr2 HX.out.2.1
      have hi1 := HI1.out.1
      have HX4 := Lib.hid (Bl.trans HX3.out hb4)
      have HB4 := Lib.hid (Bl.trans HBX.out HX4.out)
      have HO4 := Lib.hid (HOX.out.below HX4.out)
      clear p0 p1 lP q0 q1 lC
      obtain ⟨p0, p1, lP⟩ := HXP.out w4 HX4.out
      obtain ⟨q0, q1, lC⟩ := HXC.out w4 (Bl.trans HR2.out HB4.out)
      obtain ⟨b2, o2, rfl, _, lb2, z1⟩ := (HRP.out w4 (Bl.trans HB2.out HB4.out)).at TPt.ok.len hi1 TPt.ok.pos
      obtain ⟨b3, o3, e3, _, _, z2⟩ := (HRP.out w4 (Bl.trans HB2.out HB4.out)).at TPt.ok.len hi2 TPt.ok.pos
      injection e3 with e3
      injection e3 with e4 e5 _
      subst e4 e5
      have t1 : w4.cell? ⟨b2, o2 + i1 * 4 + 1, none⟩ = some (.string x1.2.1) := z1 1 _ rfl
      have t2 : w4.cell? ⟨b2, o2 + i2 * 4 + 1, none⟩ = some (.string x2.2.1) := z2 1 _ rfl
      have l1 : i1 < ps.length := (List.getElem?_eq_some_iff.1 hi1).1
      have l2 : i2 < ps.length := (List.getElem?_eq_some_iff.1 hi2).1
      have HK1 : Hid (pkgP ps f = x1.2.1) := Lib.hid (by rw [← HI1.out.2]; exact pkgP_at HP0.out hi1)
      have HK2 : Hid (pkgP ps b = x2.2.1) := Lib.hid (by rw [← ba_inj he2]; exact pkgP_at HP0.out hi2)
      obtain ⟨y1, hy1⟩ : ∃ y, y = x1.2.1 := ⟨_, rfl⟩
      obtain ⟨y2, hy2⟩ : ∃ y, y = x2.2.1 := ⟨_, rfl⟩
      rw [← hy1] at t1 HK1
      rw [← hy2] at t2 HK2
      have HLO : Hid (out.length ≤ 100000) := Lib.hid (by
        rw [HE.out]
        have := oddP_len ps (l.take k)
        rw [List.length_take] at this
        omega)
      clear z1 z2 hi1 hi2 hr2 he2 hb4 HP2 hy1 hy2
      by_cases hyy : y1 = y2
      · have HEN : Hid (out = oddP ps (l.take (k + 1))) := Lib.hid (by rw [HT.out, if_neg (by simp [HK1.out, HK2.out, hyy]), List.append_nil]; exact HE.out)
        subst hyy
        go_wp2
        go_quiet (fail)
        go_wp2
        go_roundw
        case rel => exact ⟨k + 1, out, by omega, by go_num, Lib.hid (HO4.out.below (Bl.drewN (Below.refl _ _) _)), HEN, Lib.hid (Bl.drewN HB4.out _)⟩
        case measure => simp [intOf]; omega
      · have hne : (y1.toList == y2.toList) = false := by
          rw [beq_eq_false_iff_ne]
          exact fun e => hyy (ba_inj e)
        have hne2 : ¬ y1.toList = y2.toList := fun e => hyy (ba_inj e)
        have HEN : Hid (out ++ [(f, b)] = oddP ps (l.take (k + 1))) := Lib.hid (by rw [HT.out, if_pos (by simp [HK1.out, HK2.out, hyy]), HE.out])
        have hz4 : w2.heap.size ≤ w4.heap.size := HB4.out.size
        clear hyy
        go_wp2
        go_quiet (fail)
        go_wp2_with (at_builtin; refine wp_app_r TPa.ok rfl _ _ rfl w2.heap.size _ out rfl (HO4.out.alloc _) w4.heap.size 1 (f, b) rfl (blk_new w4 _) rfl (by have := HLO.out; omega) (by simp; omega) ?_)
        intro v5 w5 hO5 hg5 _
        have HO5 := Lib.hid hO5
        have HB5 : Hid (Below w2.heap.size w2 w5) := Lib.hid (Below.trans (Bl.alloc (Bl.drewN HB4.out _) _) (app_belowR ((HO4.out.below (Bl.drewN (Below.refl _ _) _)).alloc _) hg5 (by simp; omega)))
        clear hO5 hg5 t1 t2 q0 q1 p0 p1
        go_wp2
        go_roundw
        case rel => exact ⟨k + 1, _, by omega, by go_num, HO5, HEN, HB5⟩
        case measure => simp [intOf]; omega
    · obtain rfl : k = l.length := by omega
      have HEN : Hid (out = oddP ps l) := Lib.hid (by rw [HE.out, List.take_length])
      have HBN := Lib.hid (Bl.trans HB2.out HB.out)
      have HON := Lib.hid (HO.out.base lw)
      go_wp2
      go_ret2
      exact ⟨OddR.mk out HON.out (fun _ => HEN.out) (fun e => absurd rfl e), HBN.out⟩
end Go.Proofs.YteojmljggoplkaaGreatDoor
namespace Go.Proofs.YteojmljggoplkaaGreatDoor
open Go.RowKit Go.Sort
theorem EqSt_same (l : List ByteArray) (v u : Value) (w : World) (hl : l.length ≤ 100000) (rl : RecR TS w 0 v l) (rm : RecR TS w 0 u l) :
    Calls Tryz.prog 24 #[v, u] w fun e w' => e = .returned (.bool true) ∧ Below w.heap.size w w' := by
  obtain ⟨a1, c1, rfl, _, _⟩ := rl.form
  obtain ⟨a2, c2, rfl, _, _⟩ := rm.form
  by_cases h0 : l = []
  · subst h0
    refine (Tryz.slices_Equal_string_empty a1 a2 c1 0 c2 w (by omega)).mono ?_
    rintro e w' ⟨rfl, rfl⟩
    exact ⟨rfl, Below.refl _ _⟩
  · obtain ⟨y, hy⟩ : ∃ y, l[0]? = some y := ⟨_, List.getElem?_eq_getElem (List.length_pos_iff.2 h0)⟩
    obtain ⟨b1, o1, rfl, _, _, _⟩ := strs_at rl hy
    obtain ⟨b2, o2, rfl, _, _, _⟩ := strs_at rm hy
    refine (Tryz.slices_Equal_string b1 o1 l.length c1 b2 o2 l.length c2 l l w (Nat.le_refl _) (Nat.le_refl _) (by omega) (by omega) (strs_cells rl) (strs_cells rm)).mono ?_
    rintro e w' ⟨rfl, q, rfl⟩
    exact ⟨by simp, Bl.drewN (Below.refl _ _) q⟩
theorem neqPa_no (x1 x2 : ByteArray) (W : World) : (binOp .neq 61 (.agg #[.string x1, .string x2]) (.agg #[.string x1, .string x2])).run Tryz.prog W = .ok (.bool false) W := by
  go_simp
set_option maxHeartbeats 4000000 in
set_option maxRecDepth 100000 in
theorem EqPa_same (l : List (ByteArray × ByteArray)) (v u : Value) (w : World) (_hl : l.length ≤ 100000) (rl : RecR TPa w 0 v l) (rm : RecR TPa w 0 u l) :
    Calls Tryz.prog 27 #[v, u] w fun e w' => e = .returned (.bool true) ∧ Below w.heap.size w w' := by
  obtain ⟨a, ca, rfl, _, _⟩ := rl.form
  obtain ⟨b, cb, rfl, _, _⟩ := rm.form
  have RL := Lib.hid rl
  have RM := Lib.hid rm
  clear rl rm
  go_enter Tryz.func27, Tryz.ntmps27
  go_wp2_with fail
  go_loopw [13] (fun i wr => ∃ k : Nat, k ≤ l.length ∧ i = .int .i64 k ∧ Below w.heap.size w wr) (fun i _ => l.length - (intOf i).toNat)
  case atStart => exact ⟨0, Nat.zero_le _, rfl, Below.refl _ _⟩
  case round =>
    obtain ⟨k, hk, rfl, hB⟩ := hrel
    by_cases hlt : k < l.length
    · obtain ⟨x, hx⟩ : ∃ x, l[k]? = some x := ⟨_, List.getElem?_eq_getElem hlt⟩
      obtain ⟨b1, o1, rfl, _, _, hc1⟩ := (RL.out.below hB).at TPa.ok.len hx TPa.ok.pos
      obtain ⟨b2, o2, rfl, _, _, hc2⟩ := (RM.out.below hB).at TPa.ok.len hx TPa.ok.pos
      obtain ⟨x1, x2⟩ := x
      have cx0 : wr.cell? ⟨b1, o1 + k * 2, none⟩ = some (.string x1) := hc1 0 _ rfl
      have cx1 : wr.cell? ⟨b1, o1 + k * 2 + 1, none⟩ = some (.string x2) := hc1 1 _ rfl
      have cy0 : wr.cell? ⟨b2, o2 + k * 2, none⟩ = some (.string x1) := hc2 0 _ rfl
      have cy1 : wr.cell? ⟨b2, o2 + k * 2 + 1, none⟩ = some (.string x2) := hc2 1 _ rfl
      have hw1 : IntKind.i64.wrap ((k : Int) + 1) = ((k + 1 : Nat) : Int) := by rw [IntWalk.i64_in _ (by omega)]; omega
      clear hc1 hc2 hx
      have hne := neqPa_no x1 x2
      go_wp2_with fail
      go_region
      all_goals (
        go_wp2
        go_roundw
        case rel => exact ⟨k + 1, by omega, by go_num, Below.drew hB⟩
        case measure => simp [intOf]; omega)
    · go_wp2
      go_ret
      exact ⟨rfl, hB⟩
theorem hdrE_at {w : World} {B : Nat} {a : Option Addr} {n cap : Nat} {hs : List Hdr} {G : List (List Bs)} (h : OwnG w B (.slice a n cap) hs G) {k : Nat} {x : Hdr} {g : List Bs} (hx : hs[k]? = some x) (hg : G[k]? = some g) :
    ∃ b o, a = some ⟨b, o, none⟩ ∧ b < w.heap.size ∧ w.cell? ⟨b, o + k, none⟩ = some (hdrV x) ∧ RecR TS w 0 (hdrV x) (g.map baOf) := by
  obtain ⟨b, o, rfl, h1, h2, h3⟩ := h.own.rec0.at THs.ok.len hx THs.ok.pos
  refine ⟨b, o, rfl, h2, ?_, (h.row k x g hx hg).rec0⟩
  have := h3 0 _ rfl
  simpa [THs] using this
theorem OwnG.formE {w : World} {B : Nat} {v : Value} {hs : List Hdr} {G : List (List Bs)} (h : OwnG w B v hs G) : ∃ a c, v = .slice a G.length c := by
  obtain ⟨a, c, e, _, _⟩ := h.own.form
  exact ⟨a, c, by rw [e, h.len]⟩
theorem OwnG.hdrE {w : World} {B : Nat} {v : Value} {hs : List Hdr} {G : List (List Bs)} (h : OwnG w B v hs G) {k : Nat} (hk : k < G.length) : ∃ x, hs[k]? = some x := ⟨_, List.getElem?_eq_getElem (by rw [h.len]; exact hk)⟩
set_option maxHeartbeats 2000000 in
theorem EqGr_same (G : List (List Bs)) (hs1 hs2 : List Hdr) (B1 B2 : Nat) (v u : Value) (w : World) (hl : G.length ≤ 100000) (hl2 : ∀ x ∈ G, x.length ≤ 100000) (rl : OwnG w B1 v hs1 G) (rm : OwnG w B2 u hs2 G) :
    Calls Tryz.prog 25 #[v, u, .func (.func 24) #[] #[]] w fun e w' => e = .returned (.bool true) ∧ Below w.heap.size w w' := by
  obtain ⟨a, cap, rfl⟩ := rl.formE
  obtain ⟨a', cap', rfl⟩ := rm.formE
  have RL := Lib.hid rl
  have RM := Lib.hid rm
  clear rl rm
  go_enter Tryz.func25, Tryz.ntmps25
  go_wp2
  go_loopw [17] (fun i wr => ∃ k : Nat, k ≤ G.length ∧ i = .int .i64 k ∧ Below w.heap.size w wr) (fun i _ => G.length - (intOf i).toNat)
  case atStart => exact ⟨0, Nat.zero_le _, rfl, Below.refl _ _⟩
  case round =>
    obtain ⟨k, hk, rfl, hb⟩ := hrel
    by_cases hlt : k < G.length
    · obtain ⟨g, hg⟩ : ∃ x, G[k]? = some x := ⟨_, List.getElem?_eq_getElem hlt⟩
      obtain ⟨x, hx⟩ := RL.out.hdrE hlt
      obtain ⟨y, hy⟩ := RM.out.hdrE hlt
      obtain ⟨b2, o2, rfl, _, hx2, hx3⟩ := hdrE_at (RL.out.low hb) hx hg
      obtain ⟨b3, o3, rfl, _, hy2, hy3⟩ := hdrE_at (RM.out.low hb) hy hg
      have HE := Lib.hid (EqSt_same (g.map baOf) (hdrV x) (hdrV y) wr (by rw [List.length_map]; exact hl2 g (List.mem_of_getElem? hg)) hx3 hy3)
      generalize hdrV x = vx at *
      generalize hdrV y = vy at *
      have hw1 : IntKind.i64.wrap ((k : Int) + 1) = ((k + 1 : Nat) : Int) := by rw [IntWalk.i64_in _ (by omega)]; omega
      clear hx hx3 hy hy3 hg
      go_wp2_with fail
      refine HE.out.mono ?_
      rintro e w' ⟨rfl, hb2⟩
      have hb' := Bl.trans hb hb2
      clear hb2
      go_wp2
      go_roundw
      case rel => exact ⟨k + 1, by omega, by go_num, hb'⟩
      case measure => simp [intOf]; omega
    · go_wp2
      go_ret
      exact ⟨rfl, hb⟩
end Go.Proofs.YteojmljggoplkaaGreatDoor
