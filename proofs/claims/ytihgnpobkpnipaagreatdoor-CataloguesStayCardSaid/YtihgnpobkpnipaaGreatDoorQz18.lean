/- Texts of the proof of a law, put together, part 18 of 41. Conditions: none beyond those that each theorem names. -/
import Derived.Test.YtihgnpobkpnipaaGreatDoorQz1
import Derived.Test.YtihgnpobkpnipaaGreatDoorQz17
import Derived.Deep.RegionHeld2
import Derived.Sort.Grow
import Derived.Sort.Row
namespace Go.Proofs.YtihgnpobkpnipaaGreatDoor
open Go.RowKit Go.Sort Go.Maps Go.Lib
theorem enc2_inj {a b c d : Bs} (ha : a.length ≤ maxLen) (hb : b.length ≤ maxLen) (hc : c.length ≤ maxLen) (hd : d.length ≤ maxLen) (h : enc2 a b = enc2 c d) : a = c ∧ b = d := by
  have h1 := _root_.Go.keyBytes_inj (l := [.string a, .string b]) (l' := [.string c, .string d]) ⟨trivial, trivial, trivial⟩ (fun x hx => by
    simp only [List.mem_cons, List.not_mem_nil, or_false] at hx
    rcases hx with rfl | rfl
    · exact ha
    · exact hb) (fun x hx => by
    simp only [List.mem_cons, List.not_mem_nil, or_false] at hx
    rcases hx with rfl | rfl
    · exact hc
    · exact hd) h
  simpa using h1
def shortW (x : Bs × Bs) : Prop := x.1.length ≤ maxLen ∧ x.2.length ≤ maxLen
/-- the ways that have been seen. -/
def seenW (l : List (Bs × Bs)) : Sm Bool := l.foldl (fun m x => m.put (enc2 x.1 x.2) true) []
theorem seenW_snoc (l : List (Bs × Bs)) (x : Bs × Bs) : seenW (l ++ [x]) = (seenW l).put (enc2 x.1 x.2) true := by
  unfold seenW
  rw [List.foldl_append]; rfl
theorem seenW_len (l : List (Bs × Bs)) : (seenW l).length ≤ l.length := by
  have h : ∀ (l : List (Bs × Bs)) (m : Sm Bool), (l.foldl (fun m x => m.put (enc2 x.1 x.2) true) m).length ≤ m.length + l.length := by
    intro l
    induction l with
    | nil => intro m; simp
    | cons x r ih =>
      intro m
      have h1 := ih (m.put (enc2 x.1 x.2) true)
      have h2 := Sm.put_le m (enc2 x.1 x.2) true
      rw [List.foldl_cons, List.length_cons]
      omega
  have := h l []
  unfold seenW
  simpa using this
theorem seenW_get {y : Bs × Bs} (hy : shortW y) : ∀ (l : List (Bs × Bs)), (∀ x ∈ l, shortW x) → ((seenW l).get (enc2 y.1 y.2)).getD false = decide (y ∈ l) := by
  have h : ∀ (l : List (Bs × Bs)) (m : Sm Bool), (∀ x ∈ l, shortW x) → ((l.foldl (fun m x => m.put (enc2 x.1 x.2) true) m).get (enc2 y.1 y.2)).getD false = (((m.get (enc2 y.1 y.2)).getD false) || decide (y ∈ l)) := by
    intro l
    induction l with
    | nil => intro m _; simp
    | cons x r ih =>
      intro m hl
      rw [List.foldl_cons, ih _ fun z hz => hl z (List.mem_cons_of_mem _ hz)]
      by_cases e : y = x
      · subst e
        rw [Sm.get_put_same]
        simp
      · have hx := hl x (List.mem_cons_self ..)
        have hne : enc2 x.1 x.2 ≠ enc2 y.1 y.2 := fun q => e (by
          obtain ⟨q1, q2⟩ := enc2_inj hx.1 hx.2 hy.1 hy.2 q
          exact (Prod.ext q1 q2).symm)
        rw [Sm.get_put_other hne]
        have : decide (y ∈ x :: r) = decide (y ∈ r) := by
          rw [decide_eq_decide, List.mem_cons]
          exact ⟨fun q => q.resolve_left e, .inr⟩
        rw [this]
  intro l hl
  have := h l [] hl
  unfold seenW
  simpa [Sm.get] using this
theorem twice_congr : ∀ (l a b : List (Bs × Bs)), (∀ x, x ∈ a ↔ x ∈ b) → twiceB a l = twiceB b l
  | [], _, _, _ => rfl
  | x :: r, a, b, h => by
    rw [twiceB, twiceB, twice_congr r (x :: a) (x :: b) fun y => by rw [List.mem_cons, List.mem_cons, h]]
    congr 1
    rw [decide_eq_decide]
    exact h x
theorem twice_hit {done r : List (Bs × Bs)} {x : Bs × Bs} (h : x ∈ done) : twiceB done (x :: r) = true := by
  rw [twiceB, decide_eq_true h]; rfl
theorem twice_go {done r : List (Bs × Bs)} {x : Bs × Bs} (h : x ∉ done) : twiceB done (x :: r) = twiceB (done ++ [x]) r := by
  rw [twiceB, decide_eq_false h, Bool.false_or]
  exact twice_congr r _ _ fun y => by simp [or_comm]
theorem twice_map {f : Bs × Bs → Bs × Bs} (hf : ∀ x y, f x = f y → x = y) : ∀ (l a : List (Bs × Bs)), twiceB (a.map f) (l.map f) = twiceB a l
  | [], _ => rfl
  | x :: r, a => by
    rw [List.map_cons, twiceB, twiceB, ← List.map_cons, twice_map hf r (x :: a)]
    congr 1
    rw [decide_eq_decide, List.mem_map]
    exact ⟨fun ⟨y, hy, e⟩ => hf _ _ e ▸ hy, fun h => ⟨x, h, rfl⟩⟩
/-- the reference tells what replaces ahead of what is replaced. -/
def turnW (x : Bs × Bs) : Bs × Bs := (x.2, x.1)
def waysR (x : Alt) : List (Bs × Bs) := (bsOf x.2.1, bsOf x.1) :: if x.2.2 = true then [(bsOf x.1, bsOf x.2.1)] else []
theorem waysR_eq (x : Alt) : waysR x = (waysA x).map turnW := by
  unfold waysR waysA
  cases x.2.2 <;> rfl
theorem twiceR (l : List Alt) : twiceB [] (l.flatMap waysR) = twiceB [] (waysL l) := by
  have : l.flatMap waysR = (waysL l).map turnW := by
    unfold waysL
    rw [List.map_flatMap]
    congr 1
    funext x
    exact waysR_eq x
  rw [this]
  exact twice_map (fun x y h => by
    injection h with h1 h2
    exact Prod.ext h2 h1) _ []
theorem waysL_take {l : List Alt} {k : Nat} {x : Alt} (h : l[k]? = some x) : waysL (l.take (k + 1)) = waysL (l.take k) ++ waysA x := by
  unfold waysL
  rw [List.take_add_one, h, List.flatMap_append]
  simp
theorem waysL_drop {l : List Alt} {k : Nat} {x : Alt} (h : l[k]? = some x) : waysL (l.drop k) = waysA x ++ waysL (l.drop (k + 1)) := by
  obtain ⟨hk, e⟩ := List.getElem?_eq_some_iff.1 h
  unfold waysL
  rw [List.drop_eq_getElem_cons hk, e]
  rfl
theorem waysL_len : ∀ (l : List Alt), (waysL l).length ≤ 2 * l.length
  | [] => by simp [waysL]
  | x :: l => by
    have ih := waysL_len l
    have h : (waysA x).length ≤ 2 := by unfold waysA; split <;> simp
    unfold waysL at ih ⊢
    rw [List.flatMap_cons, List.length_append, List.length_cons]
    omega
end Go.Proofs.YtihgnpobkpnipaaGreatDoor
namespace Go.Proofs.YtihgnpobkpnipaaGreatDoor
open Go.RowKit Go.Sort Go.Maps
abbrev Wy := ByteArray × ByteArray
def TWy : Rty Wy := { e := 89, S := 86, k := 2, b := 32, z := .agg #[.string ByteArray.empty, .string ByteArray.empty], f := fun x => [.string x.1, .string x.2] }
theorem TWy.ok : TWy.Ok := ⟨by kernel_rfl, Tryz.underlying86, rfl, by decide, fun _ => rfl, fun x u hu => by simp [TWy] at hu; rcases hu with rfl | rfl <;> rfl, by decide⟩
def waysZ (x : Alt) : List Wy := (x.1, x.2.1) :: if x.2.2 = true then [(x.2.1, x.1)] else []
def bsW (p : Wy) : Bs × Bs := (bsOf p.1, bsOf p.2)
theorem waysZ_eq (x : Alt) : waysA x = (waysZ x).map bsW := by
  unfold waysA waysZ
  cases x.2.2 <;> rfl
/-- a block that holds one record is the call's own. -/
theorem own_one {α : Type} {T : Rty α} (hT : T.Ok) {w : World} {B g : Nat} {x : α} (hB : B ≤ g) {cs : Array Value} (h : w.heap[g]? = some (.cells cs T.e (0, 0))) (hc : cs.toList = T.f x) : OwnR T w B (.slice (some ⟨g, 0, none⟩) 1 1) [x] := by
  have hl : cs.size = T.k := by rw [← Array.length_toList, hc, hT.len]
  exact OwnR.of_blk (l := [x]) hB h (Nat.le_refl _) (by show 1 ≤ maxLen; unfold maxLen; omega) (by rw [hl, Nat.one_mul]) (by
    show cs.toList.take (1 * T.k) = _
    rw [hc, Nat.one_mul, List.take_of_length_le (by rw [hT.len]; exact Nat.le_refl _)]
    simp) (by simp [hT.len])
set_option maxHeartbeats 2000000 in
theorem ways_any (x : Alt) (w : World) :
    Calls Tryz.prog 47 #[.agg #[.string x.1, .string x.2.1, .bool x.2.2]] w fun e w' => (∃ v, e = .returned v ∧ OwnR TWy w' w.heap.size v (waysZ x)) ∧ Below w.heap.size w w' := by
  obtain ⟨f, y, bo⟩ := x
  have HB := Lib.hid (Bl.alloc (Bl.alloc (Below.refl w.heap.size w) (.cells #[.string f, .string y, .bool bo] 72)) (.cells #[.string f, .string y] 89))
  have HO := Lib.hid (own_one TWy.ok (x := (f, y)) (B := w.heap.size) (g := w.heap.size + 1) (by omega) (blk_new' (w.alloc (.cells #[.string f, .string y, .bool bo] 72)) (.cells #[.string f, .string y] 89) (by simp)) rfl)
  cases bo
  · go_enter Tryz.func47, Tryz.ntmps47
    go_wp2
    go_ret
    exact ⟨⟨_, rfl, HO.out⟩, HB.out⟩
  · go_enter Tryz.func47, Tryz.ntmps47
    go_wp2_with (at_builtin; refine wp_app_rec TWy.ok rfl _ _ rfl w.heap.size _ [(f, y)] rfl (HO.out.alloc _) (w.heap.size + 1 + 1) 1 (y, f) rfl (blk_new' _ _ (by simp)) rfl (by simp) (by simp; omega) ?_)
    intro v' w' h1 h2 h3
    have HF := Lib.hid (And.intro h1 (Below.trans (Bl.alloc HB.out (.cells #[.string y, .string f] 89)) h3))
    clear h1 h2 h3
    go_wp2
    go_ret
    exact ⟨⟨_, rfl, HF.out.1⟩, HF.out.2⟩
/-- a catalogue's rows. -/
structure CatR (w : World) (vp va : Value) (ps : List Prt) (l : List Alt) : Prop where
  p : RecR TPt w 0 vp ps
  a : RecR TAl w 0 va l
theorem CatR.low {w w' : World} {vp va : Value} {ps : List Prt} {l : List Alt} (h : CatR w vp va ps l) (hb : Below w.heap.size w w') : CatR w' vp va ps l := ⟨h.p.below hb, h.a.below hb⟩
set_option maxHeartbeats 1000000 in
theorem has_any (ps : List Prt) (l : List Alt) (vp va : Value) (key : ByteArray) (w : World) (hl : ps.length ≤ 1000000) (hs : SortP ps) (hc : CatR w vp va ps l) :
    Calls Tryz.prog 88 #[.agg #[vp, va], .string key] w fun e w' => e = .returned (.bool (hasP ps key)) ∧ Below w.heap.size w w' := by
  obtain ⟨pa, pc, rfl, _, _⟩ := hc.p.form
  obtain ⟨aa, ac, rfl, _, _⟩ := hc.a.form
  have hX := blk_new w (.cells #[.slice pa ps.length pc, .slice aa l.length ac] 29)
  have hb := Bl.alloc (Below.refl w.heap.size w) (.cells #[.slice pa ps.length pc, .slice aa l.length ac] 29)
  have HC0 := partAt_any ps key (.slice pa ps.length pc) _ hl hs (hc.p.below hb)
  obtain ⟨w1, hw1⟩ : ∃ w1, w1 = w.alloc (.cells #[.slice pa ps.length pc, .slice aa l.length ac] 29) := ⟨_, rfl⟩
  rw [← hw1] at hX hb HC0
  have HC := Lib.hid HC0
  have c0 : w1.cell? ⟨w.heap.size, 0, none⟩ = some (.slice pa ps.length pc) := blk_cell hX 0
  have HW := Lib.hid hw1
  have HB := Lib.hid hb
  clear hX hb hw1 hc hs HC0
  go_enter Tryz.func88, Tryz.ntmps88
  go_wp2_with fail
  rw [← HW.out]
  go_wp2_with fail
  refine HC.out.mono ?_
  rintro e w2 ⟨⟨r, rfl, _⟩, hb2⟩
  have HB2 := Lib.hid (Bl.trans HB.out hb2)
  clear hb2
  go_wp2
  go_ret
  exact ⟨rfl, HB2.out⟩
theorem altC_or (y x : Alt) : altC y x = orF [Lib.compareBytes y.1.data.toList x.1.data.toList, Lib.compareBytes y.2.1.data.toList x.2.1.data.toList] := by
  unfold altC bsOf orF
  by_cases h : Lib.compareBytes y.1.data.toList x.1.data.toList = 0
  · simp [h, orF]
  · simp [h]
set_option maxHeartbeats 8000000 in
set_option maxRecDepth 100000 in
theorem alternateFault_any (ps : List Prt) (l : List Alt) (vp va : Value) (k : Nat) (x : Alt) (w : World) (hl : ps.length ≤ 1000000) (hl2 : l.length ≤ 1000000) (hs : SortP ps) (hc : CatR w vp va ps l) (hx : l[k]? = some x) :
    Calls Tryz.prog 46 #[.agg #[vp, va], .int .i64 k] w fun e w' => e = .returned (.int .i64 (altF ps (prvA l k) x)) ∧ Below w.heap.size w w' := by
  have hk := (List.getElem?_eq_some_iff.1 hx).1
  have HH := Lib.hid fun (key : ByteArray) W (hW : Below w.heap.size w W) => has_any ps l vp va key W hl hs (hc.low hW)
  obtain ⟨pa, pc, rfl, _, _⟩ := hc.p.form
  obtain ⟨aa, ac, rfl, _, _⟩ := hc.a.form
  obtain ⟨b1, o1, rfl, _, hb1, hc1⟩ := hc.a.at TAl.ok.len hx TAl.ok.pos
  obtain ⟨F, hF⟩ : ∃ F, F = altF ps (prvA l k) x := ⟨_, rfl⟩
  have HP : Hid (k = 0 ∧ prvA l k = none ∨ ∃ k' y, k = k' + 1 ∧ prvA l k = some y ∧ ∀ W, Below w.heap.size w W → W.cell? ⟨b1, o1 + k' * 3, none⟩ = some (.string y.1) ∧ W.cell? ⟨b1, o1 + k' * 3 + 1, none⟩ = some (.string y.2.1) ∧ W.cell? ⟨b1, o1 + k' * 3 + 2, none⟩ = some (.bool y.2.2)) := Lib.hid (by
    match k with
    | 0 => exact .inl ⟨rfl, rfl⟩
    | k' + 1 =>
      obtain ⟨y, hy⟩ : ∃ x, l[k']? = some x := ⟨_, List.getElem?_eq_getElem (by omega)⟩
      refine .inr ⟨k', y, rfl, hy, fun W hW => ?_⟩
      obtain ⟨b4, o4, hae, _, hb4, hc4⟩ := (hc.a.below hW).at TAl.ok.len hy TAl.ok.pos
      injection hae with hae
      injection hae with e1 e2 _
      subst e1 e2
      exact ⟨hc4 0 _ rfl, hc4 1 _ rfl, hc4 2 _ rfl⟩)
  rw [← hF]
  obtain ⟨f, b, bo⟩ := x
  obtain ⟨w2, hw2⟩ : ∃ w2, w2 = (w.alloc (.cells #[.slice pa ps.length pc, .slice (some ⟨b1, o1, none⟩) l.length ac] 29)).alloc (.cells #[.string f, .string b, .bool bo] 72) := ⟨_, rfl⟩
  have hA2 : Below w.heap.size w w2 := by rw [hw2]; exact Bl.alloc (Bl.alloc (Below.refl _ _) _) _
  have HXC := Lib.hid (show ∀ W, Below w2.heap.size w2 W → W.cell? ⟨w.heap.size, 0, none⟩ = some (.slice pa ps.length pc) ∧ W.cell? ⟨w.heap.size, 1, none⟩ = some (.slice (some ⟨b1, o1, none⟩) l.length ac) ∧ W.cell? ⟨w.heap.size + 1, 0, none⟩ = some (.string f) ∧ W.cell? ⟨w.heap.size + 1, 1, none⟩ = some (.string b) ∧ W.cell? ⟨w.heap.size + 1, 2, none⟩ = some (.bool bo) ∧ w.heap.size + 1 < W.heap.size from fun W hW => by
    have h3 : W.heap[w.heap.size]? = some (.cells #[.slice pa ps.length pc, .slice (some ⟨b1, o1, none⟩) l.length ac] 29 (0, 0)) := blk_below (by rw [hw2]; exact blk_old (blk_new w _) _) hW
    have h4 : W.heap[w.heap.size + 1]? = some (.cells #[.string f, .string b, .bool bo] 72 (0, 0)) := blk_below (by rw [hw2]; exact blk_new' _ _ (by simp)) hW
    exact ⟨blk_cell h3 0, blk_cell h3 1, blk_cell h4 0, blk_cell h4 1, blk_cell h4 2, blk_lt h4⟩)
  have e0 : w.cell? ⟨b1, o1 + k * 3, none⟩ = some (.string f) := hc1 0 _ rfl
  have e1 : w.cell? ⟨b1, o1 + k * 3 + 1, none⟩ = some (.string b) := hc1 1 _ rfl
  have e2 : w.cell? ⟨b1, o1 + k * 3 + 2, none⟩ = some (.bool bo) := hc1 2 _ rfl
  obtain ⟨p, hp⟩ : ∃ q, q = hasP ps f := ⟨_, rfl⟩
  obtain ⟨r, hr⟩ : ∃ q, q = hasP ps b := ⟨_, rfl⟩
  obtain ⟨O, hO⟩ : ∃ O : Int, O = (match prvA l k with | none => 0 | some y => if 0 ≤ altC y (f, b, bo) then 7 else 0) := ⟨_, rfl⟩
  have HV : Hid (F = if p = false then 8 else if r = false then 8 else if f = b then 3 else O) := Lib.hid (by rw [hF, hp, hr, hO]; rfl)
  have HK1 : Hid (∀ W, Below w.heap.size w W → Calls Tryz.prog 88 #[.agg #[.slice pa ps.length pc, .slice (some ⟨b1, o1, none⟩) l.length ac], .string f] W fun e w' => e = .returned (.bool p) ∧ Below W.heap.size W w') := Lib.hid (fun W hW => by rw [hp]; exact HH.out f W hW)
  have HK2 : Hid (∀ W, Below w.heap.size w W → Calls Tryz.prog 88 #[.agg #[.slice pa ps.length pc, .slice (some ⟨b1, o1, none⟩) l.length ac], .string b] W fun e w' => e = .returned (.bool r) ∧ Below W.heap.size W w') := Lib.hid (fun W hW => by rw [hr]; exact HH.out b W hW)
  have HOO := Lib.hid hO
  have HW2 := Lib.hid hw2
  have HA2 := Lib.hid hA2
  obtain ⟨x0, x1, y0, y1, y2, _⟩ := HXC.out w2 (Below.refl _ _)
  have j1 : (0 : Int) ≤ (k : Int) := by omega
  have j2 : (k : Int) < (l.length : Int) := by omega
  clear hF hp hr hO hw2 hc hs hx hc1 hA2 hl HH
  cases p
  · have HFF : Hid (F = 8) := Lib.hid HV.out
    go_enter Tryz.func46, Tryz.ntmps46
    go_wp2_with fail
    rw [← HW2.out]
    go_wp2_with fail
    refine (HK1.out w2 HA2.out).mono ?_
    rintro e v2 ⟨rfl, hb⟩
    have HB2 := Lib.hid (Bl.trans HA2.out hb)
    clear hb
    go_wp2
    go_ret
    exact ⟨ret_int HFF.out.symm, HB2.out⟩
  cases r
  · have HFF : Hid (F = 8) := Lib.hid HV.out
    go_enter Tryz.func46, Tryz.ntmps46
    go_wp2_with fail
    rw [← HW2.out]
    go_wp2_with fail
    refine (HK1.out w2 HA2.out).mono ?_
    rintro e v2 ⟨rfl, hb⟩
    have HB2 := Lib.hid (Bl.trans HA2.out hb)
    obtain ⟨a0, a1, a2, a3, a4, _⟩ := HXC.out v2 hb
    clear hb
    go_wp2_with fail
    refine (HK2.out v2 HB2.out).mono ?_
    rintro e v3 ⟨rfl, hb⟩
    have HB3 := Lib.hid (Bl.trans HB2.out hb)
    clear hb
    go_wp2
    go_ret
    exact ⟨ret_int HFF.out.symm, HB3.out⟩
  by_cases hfb : f = b
  · have HFF : Hid (F = 3) := Lib.hid (by rw [HV.out, if_pos hfb]; rfl)
    subst hfb
    go_enter Tryz.func46, Tryz.ntmps46
    go_wp2_with fail
    rw [← HW2.out]
    go_wp2_with fail
    refine (HK1.out w2 HA2.out).mono ?_
    rintro e v2 ⟨rfl, hb⟩
    have HB2 := Lib.hid (Bl.trans HA2.out hb)
    have HR2 := Lib.hid hb
    obtain ⟨a0, a1, a2, a3, a4, _⟩ := HXC.out v2 hb
    clear hb
    go_wp2_with fail
    refine (HK2.out v2 HB2.out).mono ?_
    rintro e v3 ⟨rfl, hb⟩
    have HB3 := Lib.hid (Bl.trans HB2.out hb)
    obtain ⟨d0, d1, d2, d3, d4, _⟩ := HXC.out v3 (Bl.trans HR2.out hb)
    clear hb
    go_wp2
    go_ret
    exact ⟨ret_int HFF.out.symm, HB3.out⟩
  have HFO : Hid (F = O) := Lib.hid (by rw [HV.out, if_neg hfb]; rfl)
  have hne : (f.toList == b.toList) = false := by
    cases h : f.toList == b.toList
    · rfl
    · exact absurd (ba_inj (by simpa using h)) hfb
  have hne2 : ¬ f.toList = b.toList := fun h => hfb (ba_inj h)
  clear HV hfb
  rcases HP.out with ⟨h0, hn⟩ | ⟨k', y, hkk, hy, hcell⟩
  · have HFF : Hid (F = 0) := Lib.hid (by rw [HFO.out, HOO.out, hn])
    have q1 : ((k : Int) == 0) = true := by simp [h0]
    clear hn
    subst h0
    simp only [Nat.zero_mul, Nat.add_zero] at e0 e1 e2
    go_enter Tryz.func46, Tryz.ntmps46
    go_wp2_with fail
    rw [← HW2.out]
    go_wp2_with fail
    refine (HK1.out w2 HA2.out).mono ?_
    rintro e v2 ⟨rfl, hb⟩
    have HB2 := Lib.hid (Bl.trans HA2.out hb)
    have HR2 := Lib.hid hb
    obtain ⟨a0, a1, a2, a3, a4, _⟩ := HXC.out v2 hb
    clear hb
    go_wp2_with fail
    refine (HK2.out v2 HB2.out).mono ?_
    rintro e v3 ⟨rfl, hb⟩
    have HB3 := Lib.hid (Bl.trans HB2.out hb)
    obtain ⟨d0, d1, d2, d3, d4, _⟩ := HXC.out v3 (Bl.trans HR2.out hb)
    clear hb
    go_wp2
    go_ret
    exact ⟨ret_int HFF.out.symm, HB3.out⟩
  · obtain ⟨C, hC⟩ : ∃ C, C = orF [Lib.compareBytes y.1.data.toList f.data.toList, Lib.compareBytes y.2.1.data.toList b.data.toList] := ⟨_, rfl⟩
    have HFF : Hid (F = if 0 ≤ C then 7 else 0) := Lib.hid (by rw [HFO.out, HOO.out, hy, hC, ← altC_or y (f, b, bo)])
    have HC := Lib.hid hC
    have HCL := Lib.hid hcell
    have e3 : ((k : Int) == 0) = false := by simp; omega
    have e4 : ¬ (k : Int) = 0 := by omega
    have hwm : IntKind.i64.wrap ((k : Int) - 1) = (k' : Int) := by rw [IntWalk.i64_in _ (by omega)]; omega
    have j3 : (0 : Int) ≤ (k' : Int) := by omega
    have j4 : (k' : Int) < (l.length : Int) := by omega
    obtain ⟨yf, yb, ybo⟩ := y
    clear hcell hy hC
    simp only at HC HCL
    have HKK := Lib.hid hkk
    clear hkk
    go_enter Tryz.func46, Tryz.ntmps46
    go_wp2_with fail
    rw [← HW2.out]
    go_wp2_with fail
    refine (HK1.out w2 HA2.out).mono ?_
    rintro e v2 ⟨rfl, hb⟩
    have HB2 := Lib.hid (Bl.trans HA2.out hb)
    have HR2 := Lib.hid hb
    obtain ⟨a0, a1, a2, a3, a4, _⟩ := HXC.out v2 hb
    clear hb
    go_wp2_with fail
    refine (HK2.out v2 HB2.out).mono ?_
    rintro e v3 ⟨rfl, hb⟩
    have HB3 := Lib.hid (Bl.trans HB2.out hb)
    have HR3 := Lib.hid (Bl.trans HR2.out hb)
    obtain ⟨d0, d1, d2, d3, d4, lv3⟩ := HXC.out v3 HR3.out
    obtain ⟨m0, m1, m2⟩ := HCL.out v3 HB3.out
    have hN := blk_new v3 (.cells #[.string yf, .string yb, .bool ybo] 72)
    have hbN := Bl.alloc (Below.refl v3.heap.size v3) (.cells #[.string yf, .string yb, .bool ybo] 72)
    obtain ⟨v4, hv4⟩ : ∃ v4, v4 = v3.alloc (.cells #[.string yf, .string yb, .bool ybo] 72) := ⟨_, rfl⟩
    rw [← hv4] at hN hbN
    have n0 : v4.cell? ⟨v3.heap.size, 0, none⟩ = some (.string yf) := blk_cell hN 0
    have n1 : v4.cell? ⟨v3.heap.size, 1, none⟩ = some (.string yb) := blk_cell hN 1
    obtain ⟨_, _, g3, g4, _, lv4⟩ := HXC.out v4 (Bl.trans HR3.out hbN)
    have lv5 := blk_lt hN
    have HB4 := Lib.hid (Bl.trans HB3.out hbN)
    have HV4 := Lib.hid hv4
    have HOR0 := OrInt_any [Lib.compareBytes yf.data.toList f.data.toList, Lib.compareBytes yb.data.toList b.data.toList] (.slice (some ⟨v4.heap.size, 0, none⟩) 2 2) (v4.alloc (.cells #[.int .i64 (Lib.compareBytes yf.data.toList f.data.toList), .int .i64 (Lib.compareBytes yb.data.toList b.data.toList)] 3)).drew (by simp)
          (Ints.of_blk (show (v4.alloc (.cells #[.int .i64 (Lib.compareBytes yf.data.toList f.data.toList), .int .i64 (Lib.compareBytes yb.data.toList b.data.toList)] 3)).drew.heap[v4.heap.size]? = _ from blk_new v4 _) rfl rfl (Nat.le_refl _) (by simp) (Nat.zero_le _))
    rw [← HC.out] at HOR0
    have HOR := Lib.hid HOR0
    clear hb hv4 hN hbN HOR0 HK1 HK2
    go_wp2
    rw [← HV4.out]
    go_region_held2 (fun W : World => W.cell? ⟨v3.heap.size, 0, none⟩ = some (.string yf) ∧ W.cell? ⟨v3.heap.size, 1, none⟩ = some (.string yb) ∧ W.cell? ⟨w.heap.size + 1, 0, none⟩ = some (.string f) ∧ W.cell? ⟨w.heap.size + 1, 1, none⟩ = some (.string b))
      (go_keep)
      (first
        | (go_at_call 85; refine (Tryz.strings_Compare _ _ _).mono ?_; rintro e w' ⟨rfl, rfl⟩)
        | (go_at_call 84; refine HOR.out.mono ?_; rintro e w' ⟨rfl, rfl⟩))
    all_goals (
      by_cases hc0 : 0 ≤ C
      · have HFG : Hid (F = 7) := Lib.hid (by rw [HFF.out, if_pos hc0])
        go_wp2
        go_ret
        exact ⟨ret_int HFG.out.symm, Below.drew (Bl.alloc HB4.out _)⟩
      · have HFG : Hid (F = 0) := Lib.hid (by rw [HFF.out, if_neg hc0])
        go_wp2
        go_ret
        exact ⟨ret_int HFG.out.symm, Below.drew (Bl.alloc HB4.out _)⟩)
end Go.Proofs.YtihgnpobkpnipaaGreatDoor
namespace Go.Proofs.YtihgnpobkpnipaaGreatDoor
open Go.RowKit Go.Sort Go.Maps
/-- what is directly replaced lies among the parts. -/
theorem next_in {ps : List Prt} {l : List Alt} (h : catsF ps l = 0) {p s : Bs} (hs : s ∈ nextL l p) : p ∈ keysP ps ∧ s ∈ keysP ps ∧ p ≠ s :=
  ways_in (catsF_ok h).2.2.2 (nextL_mem.1 hs)
def allB (ps : List Prt) (l : List Alt) (a : Bs) : List Bs := ((bfsR (nextL l) a (keysP ps)).st.del a).keys
end Go.Proofs.YtihgnpobkpnipaaGreatDoor
namespace Go.Proofs.YtihgnpobkpnipaaGreatDoor
open Go.RowKit Go.Sort
theorem holds_row {α : Type} [Inhabited α] (enc : α → Value) {w : World} {g : Nat} {cur : Array Value} {e : TypeId} {l : List α} (hb : w.heap[g]? = some (.cells cur e (0, 0))) (ht : cur.toList.take l.length = l.map enc) : Holds enc w g 0 l.toArray := by
  intro j hj
  have hj' : j < l.length := by simpa using hj
  refine ⟨?_, by simp [World.frozen?, hb]⟩
  have h1 : (cur.toList.take l.length)[j]? = (l.map enc)[j]? := by rw [ht]
  rw [List.getElem?_take_of_lt hj'] at h1
  simp only [World.cell?, hb, Nat.zero_add]
  simp only [Option.isSome_none, Bool.false_eq_true, if_false]
  rw [← Array.getElem?_toList, h1]
  simp [hj']
theorem heap_resorted {α : Type} [Inhabited α] (enc : α → Value) {w : World} {g n : Nat} {os : Array Obj} {cur : Array Value} {e : TypeId} {fr : Nat × Nat} (d : Array α) (hb : w.heap[g]? = some (.cells cur e fr)) :
    (grow (putRow enc (Sort.ahead w n) g 0 d) os).heap[g]? = some (.cells (putCells enc 0 d cur) e fr) := by
  have hg : g < w.heap.size := (Array.getElem?_eq_some_iff.1 hb).1
  rw [heap_grow_old _ _ (by simpa using hg)]
  simp [putRow, mapBlock, Sort.ahead, Array.getElem?_modify, hb, onCells]
theorem grownBy_resorted {α : Type} [Inhabited α] (enc : α → Value) {w : World} {g n : Nat} {os : Array Obj} (d : Array α) : w.grownBy (grow (putRow enc (Sort.ahead w n) g 0 d) os) (some g) := by
  refine ⟨rfl, rfl, rfl, by simp, fun k hk hne => ?_⟩
  rw [heap_grow_old _ _ (by simpa using hk)]
  have : g ≠ k := fun e => hne (by rw [e])
  simp [putRow, mapBlock, Sort.ahead, Array.getElem?_modify, this]
theorem take_putCells' {α : Type} [Inhabited α] (enc : α → Value) (cur : Array Value) (ts : List α) (h : ts.length ≤ cur.size) : (putCells enc 0 ts.toArray cur).toList.take ts.length = ts.map enc := by
  apply List.ext_getElem?
  intro j
  by_cases hj : j < ts.length
  · rw [List.getElem?_take_of_lt hj, Array.getElem?_toList]
    simp [putCells, hj, show j < cur.size by omega]
  · rw [List.getElem?_take_eq_none (by omega), List.getElem?_eq_none (by simp; omega)]
theorem own_resorted {α : Type} [Inhabited α] (enc : α → Value) {w : World} {base g cap n q : Nat} {e : TypeId} {os : Array Obj} {l m : List α} (h : w.ownsRow base e 1 (.slice (some ⟨g, 0, none⟩) n cap) n (l.map enc)) (hn : n = l.length) (hm : m.length = l.length) :
    (grow (putRow enc (Sort.ahead w q) g 0 m.toArray) os).ownsRow base e 1 (.slice (some ⟨g, 0, none⟩) n cap) n (m.map enc) := by
  subst hn
  rcases h.2 with ⟨h0, _⟩ | ⟨g', cap', cur, hv, hg, hb, h1, h2, h3, h4⟩
  · cases h0
  · obtain ⟨hv1, _, hv2⟩ := Value.slice.inj hv
    injection hv1 with hv1
    injection hv1 with hv1
    subst hv1 hv2
    exact ⟨by simp [hm], .inr ⟨g, cap, _, rfl, hg, heap_resorted enc _ hb, h1, h2, by simp [putCells, h3], by rw [Nat.mul_one, ← hm]; exact take_putCells' enc cur m (by omega)⟩⟩
theorem holds_own {α : Type} [Inhabited α] (enc : α → Value) {w : World} {base g cap n : Nat} {e : TypeId} {l : List α} (h : w.ownsRow base e 1 (.slice (some ⟨g, 0, none⟩) n cap) n (l.map enc)) (hn : n = l.length) : Holds enc w g 0 l.toArray ∧ g < w.heap.size ∧ base ≤ g := by
  subst hn
  rcases h.2 with ⟨h0, _⟩ | ⟨g', cap', cur, hv, hg, hb, h1, h2, h3, h4⟩
  · cases h0
  · obtain ⟨hv1, _, hv2⟩ := Value.slice.inj hv
    injection hv1 with hv1
    injection hv1 with hv1
    subst hv1
    exact ⟨holds_row enc hb (by simpa using h4), blk_lt hb, hg⟩
end Go.Proofs.YtihgnpobkpnipaaGreatDoor
